/- Contract: arcs that are such are struck out of an own row (slices.DeleteFunc). -/
import Derived.Test.YtgplpgldhoelcaaQChangeAgain11
import Derived.Test.YtgplpgldhoelcaaQChangeAgain04
import Derived.Lib.SliceRun
import Derived.Test.YtgplpgldhoelcaaQChangeAgain09
namespace Go.Proofs.Ytgplpgldhoelcaa
open Go Go.RowKit
attribute [local go_sem] Oper.semAt_some
theorem gi2_mem {l : List Itm} {j : Nat} (h : j < l.length) : gi2 l j ∈ l := by
  unfold gi2
  rw [List.getD_eq_getElem?_getD, List.getElem?_eq_getElem h]
  exact List.getElem_mem h
theorem mem_gi2 {l : List Itm} {x : Itm} (h : x ∈ l) : ∃ j, j < l.length ∧ gi2 l j = x := by
  obtain ⟨j, hj, rfl⟩ := List.mem_iff_getElem.1 h
  exact ⟨j, hj, by simp [gi2, hj]⟩
theorem takeA {E : List Itm} {j : Nat} (h : j < E.length) : E.take (j + 1) = E.take j ++ [gi2 E j] := by
  rw [List.take_succ_eq_append_getElem h]
  simp [gi2, h]
structure KpA (p : Itm → Bool) (E L : List Itm) (i j : Nat) : Prop where
  len : L.length = E.length
  lt : i < j
  le : j ≤ E.length
  num : ((E.take j).filter fun x => !p x).length = i
  low : L.take i = (E.take j).filter fun x => !p x
  high : ∀ q, j ≤ q → L[q]? = E[q]?
theorem KpA.skip {p : Itm → Bool} {E L : List Itm} {i j : Nat} (h : KpA p E L i j) (hj : j < E.length) (hp : p (gi2 E j) = true) : KpA p E L i (j + 1) := by
  have e : (E.take (j + 1)).filter (fun x => !p x) = (E.take j).filter fun x => !p x := by rw [takeA hj]; simp [hp]
  exact ⟨h.len, by have := h.lt; omega, hj, by rw [e]; exact h.num, by rw [e]; exact h.low, fun q hq => h.high q (by omega)⟩
theorem KpA.keep {p : Itm → Bool} {E L : List Itm} {i j : Nat} (h : KpA p E L i j) (hj : j < E.length) (hp : p (gi2 E j) = false) : KpA p E (L.set i (gi2 E j)) (i + 1) (j + 1) := by
  have e : (E.take (j + 1)).filter (fun x => !p x) = ((E.take j).filter fun x => !p x) ++ [gi2 E j] := by rw [takeA hj]; simp [hp]
  have hl := h.len
  have hi : i < L.length := by have := h.lt; omega
  refine ⟨by simp [hl], by have := h.lt; omega, hj, by rw [e, List.length_append, h.num]; rfl, ?_, fun q hq => ?_⟩
  · rw [e, ← h.low]
    apply List.ext_getElem?
    intro q
    rw [List.getElem?_take, List.getElem?_set]
    rcases Nat.lt_trichotomy q i with h1 | h1 | h1
    · rw [if_pos (by omega), if_neg (by omega), List.getElem?_append_left (by rw [List.length_take]; omega), List.getElem?_take, if_pos h1]
    · subst h1
      rw [if_pos (by omega), if_pos rfl, if_pos hi, List.getElem?_append_right (by rw [List.length_take]; omega), List.length_take, Nat.min_eq_left (by omega), Nat.sub_self]
      rfl
    · rw [if_neg (by omega), List.getElem?_eq_none (by rw [List.length_append, List.length_take]; simp; omega)]
  · rw [List.getElem?_set, if_neg (by have := h.lt; omega)]
    exact h.high q (by omega)
theorem KpA.start {p : Itm → Bool} {E : List Itm} {k : Nat} (hk : k < E.length) (hp : p (gi2 E k) = true) (ha : ∀ j, j < k → p (gi2 E j) = false) : KpA p E E k (k + 1) := by
  have e0 : (E.take k).filter (fun x => !p x) = E.take k := by
    refine List.filter_eq_self.2 fun x hx => ?_
    obtain ⟨j, hj, rfl⟩ := List.mem_iff_getElem.1 hx
    rw [List.length_take] at hj
    have := ha j (by omega)
    rw [show gi2 E j = E[j]'(by omega) by simp [gi2, show j < E.length by omega]] at this
    simp [this]
  have e : (E.take (k + 1)).filter (fun x => !p x) = E.take k := by rw [takeA hk]; simp [hp, e0]
  exact ⟨rfl, by omega, hk, by rw [e, List.length_take]; omega, e.symm, fun _ _ => rfl⟩
def firstA (p : Itm → Bool) (E : List Itm) (r : Int) : Prop := (r = -1 ∧ ∀ j : Nat, j < E.length → p (gi2 E j) = false) ∨ ∃ k : Nat, r = (k : Int) ∧ k < E.length ∧ p (gi2 E k) = true ∧ ∀ j, j < k → p (gi2 E j) = false
set_option maxRecDepth 20000 in
set_option maxHeartbeats 2000000 in
theorem indexFuncA (A : Option Addr) (n c : Nat) (E : List Itm) (k : FuncId) (cap : Array Value) (p : Itm → Bool) (w : World) (h : Rd w A 2 n (its E)) (hE : E.length = n) (hn : n ≤ 1000000) (hk : ∀ args W, (callFunc k args).run Try.prog W = .ok (.enter k args) W)
    (hf : ∀ W, Grows w W → ∀ e, e ∈ E → Calls Try.prog k (#[itVal e] ++ cap) W fun x w' => x = .returned (.bool (p e)) ∧ Grows W w') :
    Calls Try.prog 151 #[.slice A n c, .func (.func k) #[] cap] w fun e w' => (∃ r, e = .returned (.int .i64 r) ∧ firstA p E r) ∧ Grows w w' := by
  have HL := hide hE
  have HR := hide h
  have HF := hide hf
  clear h hf hE
  unfold itVal at HF
  go_enter Try.func151, Try.ntmps151
  go_wp2
  go_loopw [8] (fun i wr => ∃ k : Nat, k ≤ n ∧ i = .int .i64 (k : Int) ∧ (∃ x : Later w, wr = x.now) ∧ ∀ j, j < k → p (gi2 E j) = false) (fun i _ => n - (Go.RowKit.intOf i).toNat)
  case atStart => exact ⟨0, by omega, by go_num, ⟨⟨w, Grows.refl w⟩, rfl⟩, fun j h1 => by omega⟩
  case round =>
    obtain ⟨q, hq, rfl, ⟨x, rfl⟩, hall⟩ := hrel
    have HA := hide hall
    clear hall
    by_cases hend : q < n
    · obtain ⟨b, off, rfl, hc⟩ := HR.out.itemH (by omega) HL.out
      obtain ⟨c1, c2⟩ := hc q hend
      have HM := hide (gi2_mem (l := E) (j := q) (by rw [HL.out]; exact hend))
      have HQ := hide (fun (W : World) (g : Grows w W) => HF.out W g (gi2 E q) HM.out)
      have HPQ := hide (show ∀ b, p (gi2 E q) = b → p (gi2 E q) = b from fun _ h => h)
      clear hc
      cases hp : p (gi2 E q) with
      | true =>
        have HW : Hid (firstA p E (q : Int)) := hide (.inr ⟨q, rfl, by rw [HL.out]; exact hend, hp, HA.out⟩)
        rw [hp] at HQ
        clear hp HPQ
        generalize gi2 E q = ar at *
        obtain ⟨a1, a2⟩ := ar
        simp only at c1 c2 HQ
        go_wp2_with fail
        refine (HQ.out _ GG).mono ?_; rintro e w' ⟨rfl, hg⟩; obtain ⟨x1, rfl⟩ := Grows.later2 hg; clear hg
        go_wp2
        go_ret
        exact ⟨⟨_, rfl, HW.out⟩, GG⟩
      | false =>
        have HP := hide hp
        rw [hp] at HQ
        clear hp HPQ
        have HA2 := hide (show ∀ j, j < q + 1 → p (gi2 E j) = false from fun j h1 => by
          by_cases hj : j = q
          · rw [hj]; exact HP.out
          · exact HA.out j (by omega))
        clear HP
        generalize gi2 E q = ar at *
        obtain ⟨a1, a2⟩ := ar
        simp only at c1 c2 HQ
        go_wp2_with fail
        refine (HQ.out _ GG).mono ?_; rintro e w' ⟨rfl, hg⟩; obtain ⟨x1, rfl⟩ := Grows.later2 hg; clear hg
        go_wp2
        go_roundw
        case measure => simp [Go.RowKit.intOf]; omega
        case rel => exact ⟨q + 1, by omega, by go_num, ⟨_, rfl⟩, HA2.out⟩
    · obtain rfl : q = n := by omega
      go_wp2
      go_ret
      exact ⟨⟨_, rfl, .inl ⟨rfl, fun j hj => HA.out j (by rw [HL.out] at hj; exact hj)⟩⟩, GG⟩
theorem run_clearA (w : World) (ty : TypeId) (b o n c : Nat) (hn : 0 < n) (hc : ∀ j, j < n * 2 → (w.cell? ⟨b, o + j, none⟩).isSome = true) (hf : ∀ j, j < n * 2 → w.frozen? ⟨b, o + j, none⟩ = false) :
    ∃ vs : List Value, (Builtin.clear_ #[28] ty #[.slice (some ⟨b, o, none⟩) n c]).run Try.prog w = .ok (.tuple #[]) (w.setCells b o vs) := by
  have hv : ∀ w, (zeroValue 40).run Try.prog w = .ok (.agg #[.int .i64 0, .int .u64 0]) w := fun w => by kernel_rfl
  refine ⟨(Builtin.zeroCells (Value.agg #[.int .i64 0, .int .u64 0]).cells n).toList, ?_⟩
  have hcs : (Value.agg #[.int .i64 0, .int .u64 0]).cells = #[.int .i64 0, .int .u64 0] := by kernel_rfl
  have hsz : (Builtin.zeroCells (Value.agg #[.int .i64 0, .int .u64 0]).cells n).size = n * 2 := by rw [hcs]; simp [Builtin.zeroCells]
  have h1 : ∀ v ∈ (Builtin.zeroCells (Value.agg #[.int .i64 0, .int .u64 0]).cells n).toList, v.oneCell' = true := fun v hv' => by
    rw [hcs] at hv'
    simp only [Builtin.zeroCells, Array.toList_map, List.mem_map] at hv'
    obtain ⟨i, _, rfl⟩ := hv'
    have : i % 2 = 0 ∨ i % 2 = 1 := by omega
    simp only [List.size_toArray, List.length_cons, List.length_nil, Nat.zero_add, Nat.reduceAdd]
    rcases this with e | e <;> rw [e] <;> rfl
  have hst := run_storeCells_cells (P := Try.prog) b o (Builtin.zeroCells (Value.agg #[.int .i64 0, .int .u64 0]).cells n).toList 0 w (by rw [Array.length_toList, hsz]; simpa using hc) (by rw [Array.length_toList, hsz]; simpa using hf) h1
  simp only [Nat.add_zero] at hst
  obtain ⟨m, rfl⟩ : ∃ m, n = m + 1 := ⟨n - 1, by omega⟩
  simp [Builtin.clear_, run_underlying Try.underlying28, hv, hst]
theorem touchCells {g : Nat} (vs : List Value) : ∀ (w : World) (o : Nat), Touch (fun k => k = g) w (w.setCells g o vs) := by
  induction vs with
  | nil => exact fun w _ => Touch.refl _ w
  | cons v r ih => exact fun w o => ((Touch.refl (fun k => k = g) w).set (p := ⟨g, o, none⟩) (.inl rfl) v).trans (ih _ _)
theorem Own.putsA {B n c g size : Nat} {e : TypeId} (hn : 0 < n) : ∀ (vs : List Value) (o : Nat) (w : World) (xs : List Value), Own w B e size (some ⟨g, 0, none⟩) n c xs → ∃ xs', Own (w.setCells g o vs) B e size (some ⟨g, 0, none⟩) n c xs' ∧ ∀ q, q < o → xs'[q]? = xs[q]?
  | [], _, _, xs, h => ⟨xs, h, fun _ _ => rfl⟩
  | v :: r, o, w, xs, h => by
    obtain ⟨xs', h1, h2⟩ := Own.putsA hn r (o + 1) (w.setCell ⟨g, o, none⟩ v) (xs.set o v) (h.set rfl hn o v)
    unfold World.setCells
    refine ⟨xs', h1, fun q hq => ?_⟩
    rw [h2 q (by omega), List.getElem?_set, if_neg (by omega)]
def RowB (A : Option Addr) : Nat → Prop := fun k => ∃ p, A = some p ∧ p.block = k
set_option maxRecDepth 20000 in
set_option maxHeartbeats 8000000 in
theorem delFuncA (w : World) (A : Option Addr) (c : Nat) (E : List Itm) (k : FuncId) (cap : Array Value) (p : Itm → Bool) (ho : Own w 0 40 2 A E.length c (its E)) (hn : E.length ≤ 1000000) (hk : ∀ args W, (callFunc k args).run Try.prog W = .ok (.enter k args) W)
    (hf : ∀ W, Touch (RowB A) w W → ∀ e, e ∈ E → Calls Try.prog k (#[itVal e] ++ cap) W fun x w' => x = .returned (.bool (p e)) ∧ Grows W w') :
    Calls Try.prog 144 #[.slice A E.length c, .func (.func k) #[] cap] w fun e w' => Touch (RowB A) w w' ∧ e = .returned (.slice A (E.filter fun x => !p x).length c) ∧ Own w' 0 40 2 A (E.filter fun x => !p x).length c (its (E.filter fun x => !p x)) := by
  have CI := hide (indexFuncA A E.length c E k cap p w ho.rd rfl hn hk (fun W g e he => hf W (g.touch _) e he))
  have HO := hide ho
  have HF := hide hf
  obtain ⟨m, hm⟩ : ∃ m, m = E.length := ⟨_, rfl⟩
  rw [← hm] at hn
  have HM := hide hm
  simp only [← hm] at HO CI ⊢
  clear ho hf hm
  go_enter Try.func144, Try.ntmps144
  go_upto_region 2 with (go_at_call 151; refine (CI.out).mono ?_; rintro e w' ⟨⟨r, rfl, hr⟩, hg2⟩; obtain ⟨x0, rfl⟩ := hg2.later; have HR := hide hr; clear hg2 hr)
  rcases HR.out with ⟨rfl, hall⟩ | ⟨k0, rfl, hk0, hp0, ha0⟩
  · have hmem : ∀ e ∈ E, p e = false := fun e he => by
      obtain ⟨j, hj, rfl⟩ := mem_gi2 he
      exact hall j hj
    have e1 : E.filter (fun x => !p x) = E := List.filter_eq_self.2 fun x hx => by simp [hmem x hx]
    have HE1 := hide e1
    clear HR hall hmem e1 HF hk
    go_wp2_with fail
    go_ret
    rw [HE1.out, ← HM.out]
    exact ⟨x0.grows.touch _, rfl, HO.out.grows x0.grows⟩
  · have HK0 := hide (KpA.start hk0 hp0 ha0)
    have hne1 : ((k0 : Int) == -1) = false := beq_eq_false_iff_ne.2 (by omega)
    rw [← HM.out] at hk0
    obtain ⟨g, hA, hB, _⟩ := HO.out.at_ (by omega)
    have hcap := hide (show m ≤ c from by obtain ⟨_, _, _, _, _, hc, _⟩ := HO.out.at_ (by omega); exact hc)
    obtain ⟨rfl, _⟩ := hB
    clear hp0 ha0 HR CI
    go_wp2_with fail
    have HTX := hide (show Touch (RowB (some (⟨g, 0, none⟩ : Addr))) w x0.now from x0.grows.touch _)
    have HOX := hide (HO.out.grows x0.grows)
    generalize x0.now = W0 at *
    go_loopw [5, 6] (fun s5 s6 wr => ∃ i j : Nat, s5 = .int .i64 (i : Int) ∧ s6 = .int .i64 (j : Int) ∧ Touch (RowB (some (⟨g, 0, none⟩ : Addr))) w wr ∧ ∃ L, Hid (KpA p E L i j) ∧ Own wr 0 40 2 (some ⟨g, 0, none⟩) m c (its L)) (fun _ s6 _ => m - (Go.RowKit.intOf s6).toNat)
    case atStart => exact ⟨k0, k0 + 1, rfl, by go_num, HTX.out, E, HK0, HOX.out⟩
    case round =>
      obtain ⟨i, j, rfl, rfl, htt, L, HKP, hown⟩ := hrel
      have HO2 := hide hown
      have HTT := hide htt
      clear hown htt HTX HOX HO
      have hij := HKP.out.lt
      have hjm : j ≤ m := by have := HKP.out.le; have := HM.out; omega
      have hcc := hcap.out
      by_cases hlt : j < m
      · obtain ⟨_, e1, c1, c2⟩ := HO2.out.item hlt
        injection e1 with e1
        injection e1 with e1
        subst e1
        obtain ⟨_, e1, d1, d2⟩ := HO2.out.item (show i < m by omega)
        injection e1 with e1
        injection e1 with e1
        subst e1
        have eL : gi2 L j = gi2 E j := by unfold gi2; rw [List.getD_eq_getElem?_getD, List.getD_eq_getElem?_getD, HKP.out.high j (Nat.le_refl _)]
        rw [eL] at c1 c2
        have hjE : j < E.length := by have := HM.out; omega
        have HC := hide (fun (W : World) (g : Grows wr W) => HF.out W (HTT.out.grows g) (gi2 E j) (gi2_mem hjE))
        have hLl : L.length = m := by rw [HKP.out.len]; exact HM.out.symm
        have HLI := hide (show i < L.length by omega)
        unfold itVal at HC
        clear eL
        cases hq : p (gi2 E j) with
        | false =>
          have HKK := hide (HKP.out.keep hjE hq)
          rw [hq] at HC
          clear hq HKP hjE
          generalize gi2 E j = ar at *
          obtain ⟨a1, a2⟩ := ar
          simp only at c1 c2 HC
          have HIS := hide (its_set L i (a1, a2) HLI.out)
          go_wp2_with (refine (HC.out _ GG).mono ?_; rintro e w' ⟨rfl, hg2⟩; obtain ⟨x1, rfl⟩ := hg2.later; clear hg2)
          have hgx : Grows wr x1.now := GG
          have HO5 := hide (((HO2.out.grows hgx).set rfl (by omega) (i * 2) (.int .i64 (a1 : Int))).set rfl (by omega) (i * 2 + 1) (.int .u64 (a2 : Int)))
          have HT5 := hide (((HTT.out.grows hgx).set (p := ⟨g, i * 2, none⟩) (.inl ⟨_, rfl, rfl⟩) (.int .i64 (a1 : Int))).set (p := ⟨g, i * 2 + 1, none⟩) (.inl ⟨_, rfl, rfl⟩) (.int .u64 (a2 : Int)))
          go_roundw
          case measure => simp [Go.RowKit.intOf]; omega
          case rel => exact ⟨i + 1, j + 1, by go_num, by go_num, HT5.out, _, HKK, by rw [← HIS.out]; exact HO5.out⟩
        | true =>
          have HKK := hide (HKP.out.skip hjE hq)
          rw [hq] at HC
          clear hq HKP hjE
          generalize gi2 E j = ar at *
          obtain ⟨a1, a2⟩ := ar
          simp only at c1 c2 HC
          go_wp2_with (refine (HC.out _ GG).mono ?_; rintro e w' ⟨rfl, hg2⟩; obtain ⟨x1, rfl⟩ := hg2.later; clear hg2)
          have hgx : Grows wr x1.now := GG
          go_roundw
          case measure => simp [Go.RowKit.intOf]; omega
          case rel => exact ⟨i, j + 1, by go_num, by go_num, HTT.out.grows hgx, L, HKK, HO2.out.grows hgx⟩
      · obtain rfl : j = m := by omega
        have HFL := hide (show L.take i = E.filter (fun x => !p x) from by have := HKP.out.low; rw [HM.out, List.take_length] at this; exact this)
        have HFN := hide (show (E.filter (fun x => !p x)).length = i from by have := HKP.out.num; rw [HM.out, List.take_length] at this; exact this)
        have hLl : L.length = j := by rw [HKP.out.len]; exact HM.out.symm
        obtain ⟨vs, hcl⟩ : ∃ f : TypeId → List Value, ∀ ty, (Builtin.clear_ #[28] ty #[.slice (some ⟨g, i * 2, none⟩) (j - i) (c - i)]).run Try.prog wr = .ok (.tuple #[]) (wr.setCells g (i * 2) (f ty)) := by
          have h1 : ∀ ty, ∃ vs : List Value, (Builtin.clear_ #[28] ty #[.slice (some ⟨g, i * 2, none⟩) (j - i) (c - i)]).run Try.prog wr = .ok (.tuple #[]) (wr.setCells g (i * 2) vs) := fun ty => run_clearA wr ty g (i * 2) (j - i) (c - i) (by omega)
            (fun t ht => by rw [HO2.out.cell rfl (List.getElem?_eq_getElem (show i * 2 + t < (its L).length by rw [its_len, hLl]; omega))]; rfl)
            (fun t ht => HO2.out.frozen rfl (by omega) _)
          exact ⟨fun ty => (h1 ty).choose, fun ty => (h1 ty).choose_spec⟩
        have HO3 := hide (fun ty => show Own (wr.setCells g (i * 2) (vs ty)) 0 40 2 (some ⟨g, 0, none⟩) i c (its (L.take i)) from by
          obtain ⟨xs', ho3, hlow⟩ := Own.putsA (by omega) (vs ty) (i * 2) _ _ HO2.out
          have := ho3.cut (m := i) (by omega) (by omega)
          have e : xs'.take (i * 2) = its (L.take i) := by
            rw [its_take]
            apply List.ext_getElem?
            intro q
            rw [List.getElem?_take, List.getElem?_take]
            by_cases hqi : q < i * 2
            · rw [if_pos hqi, if_pos hqi, hlow q hqi]
            · rw [if_neg hqi, if_neg hqi]
          rwa [e] at this)
        have HT3 := hide (fun ty => show Touch (RowB (some (⟨g, 0, none⟩ : Addr))) w (wr.setCells g (i * 2) (vs ty)) from HTT.out.trans ((touchCells (vs ty) wr (i * 2)).mono (fun k hk => ⟨_, rfl, hk.symm⟩)))
        rw [HFL.out] at HO3
        clear HKP hk
        go_wp2
        go_ret
        rw [HFN.out]
        exact ⟨HT3.out _, rfl, HO3.out _⟩
end Go.Proofs.Ytgplpgldhoelcaa

namespace Go.Proofs.Ytgplpgldhoelcaa
open Go Go.RowKit
def hsCells (x : Sc) : List Value := [.int .i64 (x.f : Int), .int .i64 (x.t : Int), .int .u64 (x.w : Int), .int .i64 x.e, .int .i64 x.a, .int .i64 x.b]
def hss (L : List Sc) : List Value := L.flatMap hsCells
def scVal (x : Sc) : Value := .agg #[.int .i64 (x.f : Int), .int .i64 (x.t : Int), .int .u64 (x.w : Int), .int .i64 x.e, .int .i64 x.a, .int .i64 x.b]
theorem hss_at (L : List Sc) (i j : Nat) (hi : i < L.length) (hj : j < 6) : (hss L)[i * 6 + j]? = (hsCells (gs L i))[j]? := flat_get hsCells 6 (fun _ => rfl) sc0 L i j hi hj
theorem hss_app (L : List Sc) (x : Sc) : hss (L ++ [x]) = hss L ++ hsCells x := by simp [hss]
theorem elemSc : Elem 61 95 6 := by
  have h : (Try.prog.info? 95).map (fun i => (i.zero, i.size, i.bytes)) = some (some (.agg #[.int .i64 0, .int .i64 0, .int .u64 0, .int .i64 0, .int .i64 0, .int .i64 0]), 6, 48) := by kernel_rfl
  obtain ⟨i, hi, hz, hs, hb⟩ := info_parts h
  exact ⟨Try.underlying61, ⟨i, _, 48, hi, hz, hs, hb, rfl, by omega⟩, by omega⟩
def mpC (at_ : Nat → Nat → Option Nat) (p q : Int) : Option Int := if 0 ≤ p ∧ 0 ≤ q then (at_ p.toNat q.toNat).map (fun i : Nat => (i : Int)) else none
theorem mpC_at (at_ : Nat → Nat → Option Nat) (p q : Nat) : mpC at_ (p : Int) (q : Int) = (at_ p q).map (fun i : Nat => (i : Int)) := by
  unfold mpC
  rw [if_pos ⟨by omega, by omega⟩]
  rfl
theorem mpC_put (at_ : Nat → Nat → Option Nat) (f t n : Nat) : (fun p q => if p = (f : Int) ∧ q = (t : Int) then some (n : Int) else mpC at_ p q) = mpC (fun p q => if p = f ∧ q = t then some n else at_ p q) := by
  funext p q
  unfold mpC
  by_cases h0 : 0 ≤ p ∧ 0 ≤ q
  · obtain ⟨p', rfl⟩ : ∃ m : Nat, p = (m : Int) := ⟨p.toNat, by omega⟩
    obtain ⟨q', rfl⟩ : ∃ m : Nat, q = (m : Int) := ⟨q.toNat, by omega⟩
    rw [if_pos h0]
    by_cases e : p' = f ∧ q' = t
    · obtain ⟨rfl, rfl⟩ := e
      simp
    · rw [if_neg (by omega)]
      simp only [h0, and_self, if_true, Int.toNat_natCast, if_neg e]
  · rw [if_neg h0, if_neg (by omega)]
    simp [h0]
set_option maxRecDepth 20000 in
theorem MapPV.lookOk {w : World} {b n : Nat} {f : Int → Int → Option Int} (h : MapPV w b n f) {k1 k2 : Int} (w1 : I64 k1) (w2 : I64 k2) :
    (Instr.lookup 148 (.map (some b)) (.agg #[.int .i64 k1, .int .i64 k2]) true).run Try.prog w = .ok (.tuple #[.int .i64 ((f k1 k2).getD 0), .bool (f k1 k2).isSome]) w := by
  obtain ⟨D, h1, h3, h4⟩ := h
  obtain ⟨v, ps, hrun, hv⟩ := h1.look_ok (t := 148) keyedP Try.underlying148 (zeroI w) (plainElem_int Try.underlying3 (by decide)) (keyOfP w1 w2)
  obtain ⟨c, rfl, hc, _⟩ := plainElem_int_inv Try.underlying3 hv
  have hc := congrArg Prod.fst hc
  simp only at hc
  rw [h4 k1 k2 w1 w2] at hc
  injection hc with hc
  injection hc with _ hc
  rw [hc, ← h3 k1 k2 w1 w2]
  exact hrun
set_option maxRecDepth 20000 in
theorem MapPV.look {w : World} {b n : Nat} {f : Int → Int → Option Int} (h : MapPV w b n f) {k1 k2 : Int} (w1 : I64 k1) (w2 : I64 k2) :
    (Instr.lookup 148 (.map (some b)) (.agg #[.int .i64 k1, .int .i64 k2]) false).run Try.prog w = .ok (.int .i64 ((f k1 k2).getD 0)) w := by
  obtain ⟨D, h1, h3, h4⟩ := h
  obtain ⟨c, hrun, hat, _⟩ := h1.lookup_int (t := 148) keyedP Try.underlying148 Try.underlying3 (zeroI w) (keyOfP w1 w2)
  rw [h4 k1 k2 w1 w2] at hat
  injection hat with hc
  injection hc with _ hc
  rw [hc]
  exact hrun
theorem MapPV.grow {w w' : World} {b n : Nat} {f : Int → Int → Option Int} (h : MapPV w b n f) (hg : Grows w w') : MapPV w' b n f := h.touch (hg.touch (fun _ => False)) id
theorem MapPV.not_arr {w : World} {b n g : Nat} {f : Int → Int → Option Int} {t : TypeId} {cs : List Value} (h : MapPV w b n f) (k : Arr w g t cs) : g ≠ b := by
  rintro rfl
  obtain ⟨D, ⟨es, clock, hb, _⟩, _⟩ := h
  have := hb.symm.trans k.is
  injection this with this
  cases this
theorem MapPV.not_own {w : World} {b n B n' c size : Nat} {f : Int → Int → Option Int} {e : TypeId} {A : Option Addr} {xs : List Value} (h : MapPV w b n f) (k : Own w B e size A n' c xs) : ∀ p, A = some p → p.block ≠ b := by
  rintro p rfl
  rcases k.2 with ⟨h1, _⟩ | ⟨g', cap, cur, h1, _, h3, _⟩
  · cases h1
  · injection h1 with h1 _ _
    injection h1 with h1
    subst h1
    rintro rfl
    obtain ⟨D, ⟨es, clock, hb, _⟩, _⟩ := h
    have := hb.symm.trans h3
    injection this with this
    cases this
structure CorePl where
  b : Nat
  go : Nat
  gg : Nat
  bm : Nat
  gd : Nat
  N : Nat
  hops : Nat
  settles : Nat
  rk : Value
structure CoreRw where
  As : Option Addr
  cs : Nat
  Af : Nat → Option Addr
  cf : Nat → Nat
  ln : Nat → Nat
def CorePl.cells (P : CorePl) (R : CoreRw) (n : Nat) : List Value :=
  [.slice (some ⟨P.go, 0, none⟩) P.N P.N, .slice (some ⟨P.gg, 0, none⟩) P.N P.N, .map (some P.bm), .slice R.As n R.cs, .int .i64 (P.hops : Int), .int .i64 (P.settles : Int), P.rk, .slice (some ⟨P.gd, 0, none⟩) P.N P.N]
def CoreRw.hdr (R : CoreRw) (x : Nat) : Value := .slice (R.Af x) (R.ln x) (R.cf x)
def CoreBl (P : CorePl) (R : CoreRw) (k : Nat) : Prop := k = P.b ∨ k = P.go ∨ k = P.gg ∨ k = P.bm ∨ k = P.gd ∨ RowB R.As k ∨ ∃ x, x < P.N ∧ RowB (R.Af x) k
structure CoreX (w : World) (P : CorePl) (R : CoreRw) (ok : Nat → Prop) (c : Ctr) (nm nl : Nat) (L : List Sc) : Prop where
  olen : c.O.length = P.N
  glen : c.G.length = P.N
  dlen : c.D.length = P.N
  core : Arr w P.b 150 (P.cells R nl)
  out : Arr w P.go 28 ((List.range P.N).map R.hdr)
  gone : Arr w P.gg 4 (c.G.map .bool)
  deep : Arr w P.gd 3 (nv c.D)
  map : MapPV w P.bm nm (mpC c.at_)
  list : Own w 0 95 6 R.As L.length R.cs (hss L)
  rows : ∀ x, x < P.N → ok x → R.ln x = (ga c.O x).length ∧ Own w 0 40 2 (R.Af x) (ga c.O x).length (R.cf x) (its (ga c.O x))
  lt : ∀ x, x < P.N → ∀ p, R.Af x = some p → p.block < w.heap.size ∧ ∃ cs, w.heap[p.block]? = some (.cells cs 40 (0, 0))
  apart : ∀ x y p q, x < P.N → y < P.N → x ≠ y → R.Af x = some p → R.Af y = some q → p.block ≠ q.block
section
variable {w w' : World} {P : CorePl} {R : CoreRw} {ok : Nat → Prop} {c : Ctr} {nm nl : Nat} {L : List Sc} {S : Nat → Prop}
theorem CoreX.touch (h : CoreX w P R ok c nm nl L) (ht : Touch S w w') (hs : ∀ k, CoreBl P R k → ¬ S k) : CoreX w' P R ok c nm nl L :=
  ⟨h.olen, h.glen, h.dlen, h.core.touch ht (hs _ (.inl rfl)), h.out.touch ht (hs _ (.inr (.inl rfl))), h.gone.touch ht (hs _ (.inr (.inr (.inl rfl)))), h.deep.touch ht (hs _ (.inr (.inr (.inr (.inr (.inl rfl)))))),
    h.map.touch ht (hs _ (.inr (.inr (.inr (.inl rfl))))), h.list.touch ht (fun p hp => hs _ (.inr (.inr (.inr (.inr (.inr (.inl ⟨p, hp, rfl⟩))))))),
    fun x hx ho => ⟨(h.rows x hx ho).1, (h.rows x hx ho).2.touch ht (fun p hp => hs _ (.inr (.inr (.inr (.inr (.inr (.inr ⟨x, hx, p, hp, rfl⟩)))))))⟩,
    fun x hx p hp => by
      obtain ⟨h1, cs, h2⟩ := h.lt x hx p hp
      exact ⟨Nat.lt_of_lt_of_le h1 ht.size, cs, ht.at (hs _ (.inr (.inr (.inr (.inr (.inr (.inr ⟨x, hx, p, hp, rfl⟩))))))) h2⟩, h.apart⟩
theorem CoreX.grow (h : CoreX w P R ok c nm nl L) (hg : Grows w w') : CoreX w' P R ok c nm nl L := h.touch (hg.touch (fun _ => False)) (fun _ _ => id)
theorem CoreX.row_arr (h : CoreX w P R ok c nm nl L) {x : Nat} (hx : x < P.N) {p : Addr} (hp : R.Af x = some p) {g : Nat} {t : TypeId} {cs : List Value} (k : Arr w g t cs) (hne : 40 ≠ t) : p.block ≠ g := by
  rintro rfl
  obtain ⟨_, cs', h2⟩ := h.lt x hx p hp
  have := h2.symm.trans k.is
  injection this with this
  injection this with _ this
  exact hne this
theorem CoreX.row_own (h : CoreX w P R ok c nm nl L) {x : Nat} (hx : x < P.N) {p : Addr} (hp : R.Af x = some p) {B n c' size : Nat} {t : TypeId} {A : Option Addr} {cs : List Value} (k : Own w B t size A n c' cs) (hne : 40 ≠ t) : ∀ q, A = some q → p.block ≠ q.block := by
  rintro q rfl
  obtain ⟨_, cs', h2⟩ := h.lt x hx p hp
  rcases k.2 with ⟨h1, _⟩ | ⟨g', cap, cur, h1, _, h3, _⟩
  · cases h1
  · injection h1 with h1 _ _
    injection h1 with h1
    subst h1
    rintro e
    simp only at e
    rw [e] at h2
    have := h2.symm.trans h3
    injection this with this
    injection this with _ this
    exact hne this
theorem CoreX.row_map (h : CoreX w P R ok c nm nl L) {x : Nat} (hx : x < P.N) {p : Addr} (hp : R.Af x = some p) : p.block ≠ P.bm := by
  intro e
  obtain ⟨_, cs', h2⟩ := h.lt x hx p hp
  obtain ⟨D, ⟨es, clock, hb, _⟩, _⟩ := h.map
  rw [e] at h2
  have := hb.symm.trans h2
  injection this with this
  cases this
theorem CoreX.bl_lt (h : CoreX w P R ok c nm nl L) : ∀ k, CoreBl P R k → k < w.heap.size := by
  rintro k (rfl | rfl | rfl | rfl | rfl | ⟨p, hp, rfl⟩ | ⟨x, hx, p, hp, rfl⟩)
  · exact h.core.lt
  · exact h.out.lt
  · exact h.gone.lt
  · exact h.map.lt
  · exact h.deep.lt
  · exact (World.ownsRow.lt h.list p.block (by rw [hp]; rfl)).2
  · exact (h.lt x hx p hp).1
theorem CoreX.mapped (h : CoreX w P R ok c nm nl L) {at_ : Nat → Nat → Option Nat} {nm' : Nat} (hm : MapPV w' P.bm nm' (mpC at_)) (ht : Touch (fun k => k = P.bm) w w') : CoreX w' P R ok ⟨c.O, c.G, at_, c.S, c.D⟩ nm' nl L :=
  ⟨h.olen, h.glen, h.dlen, h.core.touch ht (h.map.not_arr h.core), h.out.touch ht (h.map.not_arr h.out), h.gone.touch ht (h.map.not_arr h.gone), h.deep.touch ht (h.map.not_arr h.deep), hm,
    h.list.touch ht (h.map.not_own h.list), fun x hx ho => ⟨(h.rows x hx ho).1, (h.rows x hx ho).2.touch ht (h.map.not_own (h.rows x hx ho).2)⟩,
    fun x hx p hp => by
      obtain ⟨h1, cs, h2⟩ := h.lt x hx p hp
      exact ⟨Nat.lt_of_lt_of_le h1 ht.size, cs, ht.at (h.row_map hx hp) h2⟩, h.apart⟩
theorem CoreX.listed (h : CoreX w P R ok c nm nl L) {A' : Option Addr} {c' nl' : Nat} {L' : List Sc} (ho : Own w' 0 95 6 A' L'.length c' (hss L')) (ht : Touch (RowB R.As) w w') :
    Arr w' P.b 150 (P.cells R nl) ∧ CoreX (w'.setCell ⟨P.b, 3, none⟩ (.slice A' nl' c')) P ⟨A', c', R.Af, R.cf, R.ln⟩ ok c nm nl' L' := by
  have na : ∀ {g : Nat} {t : TypeId} {cs : List Value}, Arr w g t cs → 95 ≠ t → ¬ RowB R.As g := fun k hne => by
    rintro ⟨p, hp, rfl⟩
    exact h.list.not_arr k hne p hp rfl
  have nr : ∀ x, x < P.N → ∀ p, R.Af x = some p → ¬ RowB R.As p.block := fun x hx p hp => by
    rintro ⟨q, hq, e⟩
    exact h.row_own hx hp h.list (by decide) q hq e.symm
  have q1 : Arr w' P.b 150 (P.cells R nl) := h.core.touch ht (na h.core (by decide))
  have q2 := h.out.touch ht (na h.out (by decide))
  have q3 := h.gone.touch ht (na h.gone (by decide))
  have q4 := h.deep.touch ht (na h.deep (by decide))
  have q5 := h.map.touch ht (by rintro ⟨p, hp, e⟩; exact h.map.not_own h.list p hp e)
  have ts : Touch (fun k => k = P.b) w' (w'.setCell ⟨P.b, 3, none⟩ (.slice A' nl' c')) := (Touch.refl (fun k => k = P.b) w').set (p := ⟨P.b, 3, none⟩) (.inl rfl) _
  refine ⟨q1, ⟨h.olen, h.glen, h.dlen, q1.set 3 _, q2.touch ts (q2.ne q1 (by decide)), q3.touch ts (q3.ne q1 (by decide)), q4.touch ts (q4.ne q1 (by decide)), q5.touch ts (fun e => q5.not_arr q1 e.symm), ho.touch ts (ho.not_arr q1 (by decide)),
    fun x hx hk => ⟨(h.rows x hx hk).1, ?_⟩, fun x hx p hp => ?_, h.apart⟩⟩
  · have r := (h.rows x hx hk).2.touch ht (nr x hx)
    exact r.touch ts (r.not_arr q1 (by decide))
  · obtain ⟨h1, cs, h2⟩ := h.lt x hx p hp
    have h3 := ht.at (nr x hx p hp) h2
    refine ⟨Nat.lt_of_lt_of_le h1 (Nat.le_trans ht.size ts.size), cs, ts.at ?_ h3⟩
    intro e
    rw [e, q1.is] at h3
    injection h3 with h3
    injection h3 with _ h3
    exact absurd h3 (by decide)
theorem CoreX.any (h : CoreX w P R ok c nm nl L) (S2 : List Sc) : CoreX w P R ok ⟨c.O, c.G, c.at_, S2, c.D⟩ nm nl L := ⟨h.olen, h.glen, h.dlen, h.core, h.out, h.gone, h.deep, h.map, h.list, h.rows, h.lt, h.apart⟩
theorem Own.cells_ {B n c' size : Nat} {e : TypeId} {p : Addr} {xs : List Value} (h : Own w B e size (some p) n c' xs) : ∃ cs, w.heap[p.block]? = some (.cells cs e (0, 0)) := by
  rcases h.2 with ⟨h1, _⟩ | ⟨g', cap, cur, h1, _, h3, _⟩
  · cases h1
  · injection h1 with h1 _ _
    injection h1 with h1
    subst h1
    exact ⟨cur, h3⟩
theorem CoreX.turned (h : CoreX w P R ok c nm nl L) {u : Nat} (hu : u < P.N) (ht : Touch (RowB (R.Af u)) w w') (hl : ∀ p, R.Af u = some p → ∃ cs, w'.heap[p.block]? = some (.cells cs 40 (0, 0))) : CoreX w' P R (fun x => ok x ∧ x ≠ u) c nm nl L := by
  have na : ∀ {g : Nat} {t : TypeId} {cs : List Value}, Arr w g t cs → 40 ≠ t → ¬ RowB (R.Af u) g := fun k hne => by
    rintro ⟨p, hp, rfl⟩
    exact h.row_arr hu hp k hne rfl
  have nr : ∀ x, x < P.N → x ≠ u → ∀ p, R.Af x = some p → ¬ RowB (R.Af u) p.block := fun x hx hne p hp => by
    rintro ⟨q, hq, e⟩
    exact h.apart x u p q hx hu hne hp hq e.symm
  refine ⟨h.olen, h.glen, h.dlen, h.core.touch ht (na h.core (by decide)), h.out.touch ht (na h.out (by decide)), h.gone.touch ht (na h.gone (by decide)), h.deep.touch ht (na h.deep (by decide)),
    h.map.touch ht (by rintro ⟨p, hp, e⟩; exact h.row_map hu hp e), h.list.touch ht (fun p hp => by rintro ⟨q, hq, e⟩; exact h.row_own hu hq h.list (by decide) p hp e),
    fun x hx hk => ⟨(h.rows x hx hk.1).1, (h.rows x hx hk.1).2.touch ht (nr x hx hk.2)⟩, fun x hx p hp => ?_, h.apart⟩
  obtain ⟨h1, cs, h2⟩ := h.lt x hx p hp
  refine ⟨Nat.lt_of_lt_of_le h1 ht.size, ?_⟩
  by_cases e : x = u
  · subst e; exact hl p hp
  · exact ⟨cs, ht.at (nr x hx e p hp) h2⟩
end
end Go.Proofs.Ytgplpgldhoelcaa

namespace Go.Proofs.Ytgplpgldhoelcaa
open Go Go.RowKit
theorem wtF_nil {N i : Nat} {E : List Edg} (hr : rightF N E = 0) (hi : i < E.length) : gn (wtF N E []) i = (ge E i).w.toNat := by
  unfold wtF
  rw [if_neg (by omega), if_neg (by simp), if_neg (by simp)]
  simp [gn, eW, ge, hi]
inductive WyC (N : Nat) (E : List Edg) (C : Nat → Prop) (u : Nat) : Nat → Nat → Prop
  | one {i : Nat} : i < E.length → fN E i = u → WyC N E C u (tN E i) (gn (wtF N E []) i)
  | snoc {f i : Nat} : WyC N E C u (fN E i) f → C (fN E i) → i < E.length → WyC N E C u (tN E i) (f + gn (wtF N E []) i)
section
variable {N : Nat} {E : List Edg} {C : Nat → Prop} {u w f v : Nat}
theorem WyC.way (h : WyC N E C u w f) : Way (fX N E) u w f := by
  induction h with
  | @one i hi e =>
    have := fX_step (N := N) (E := E) (s := u) (i := i) (f := 0) (by rw [e]; exact .here) hi
    rwa [Nat.zero_add] at this
  | snoc _ _ hi ih => exact fX_step ih hi
theorem WyC.mono {C' : Nat → Prop} (h : WyC N E C u w f) (hc : ∀ x, C x → C' x) : WyC N E C' u w f := by
  induction h with
  | one hi e => exact .one hi e
  | snoc _ hx hi ih => exact .snoc ih (hc _ hx) hi
theorem WyC.split (h : WyC N E (fun x => C x ∨ x = v) u w f) : WyC N E C u w f ∨ ∃ f1 f2, WyC N E C u v f1 ∧ WyC N E C v w f2 ∧ f1 + f2 ≤ f := by
  induction h with
  | one hi e => exact .inl (.one hi e)
  | @snoc f i _ hx hi ih =>
    rcases ih with h1 | ⟨f1, f2, h1, h2, h3⟩
    · rcases hx with hx | hx
      · exact .inl (.snoc h1 hx hi)
      · rw [hx] at h1
        exact .inr ⟨f, gn (wtF N E []) i, h1, .one hi hx, Nat.le_refl _⟩
    · rcases hx with hx | hx
      · exact .inr ⟨f1, f2 + gn (wtF N E []) i, h1, .snoc h2 hx hi, by omega⟩
      · exact .inr ⟨f1, gn (wtF N E []) i, h1, .one hi hx, by omega⟩
end
def MadeP (E : List Edg) (pre : List Nat) (S : List Sc) (i : Nat) : Prop :=
  (∃ e, e < E.length ∧ gs S i = ⟨fN E e, tN E e, (ge E e).w.toNat, (e : Int), -1, -1⟩) ∨
  ((gs S i).e = -1 ∧ ∃ A B, (gs S i).a = (A : Nat) ∧ (gs S i).b = (B : Nat) ∧ A < i ∧ B < i ∧ (gs S A).f = (gs S i).f ∧ (gs S A).t = (gs S B).f ∧ (gs S B).t = (gs S i).t ∧ (gs S A).w + (gs S B).w = (gs S i).w ∧
    ∃ p q, pre = p ++ (gs S A).t :: q ∧ (gs S i).f ∉ p ++ [(gs S A).t] ∧ (gs S i).t ∉ p ++ [(gs S A).t])
theorem MadeP.app {E : List Edg} {pre : List Nat} {S : List Sc} {i : Nat} (h : MadeP E pre S i) (hi : i < S.length) (x : Sc) : MadeP E pre (S ++ [x]) i := by
  rcases h with ⟨e, h1, h2⟩ | ⟨h1, A, B, h2, h3, h4, h5, h6, h7, h8, h9, p, q, h10, h11, h12⟩
  · exact .inl ⟨e, h1, by rw [gs_app hi]; exact h2⟩
  · refine .inr ⟨by rw [gs_app hi]; exact h1, A, B, ?_⟩
    rw [gs_app hi, gs_app (show A < S.length by omega), gs_app (show B < S.length by omega)]
    exact ⟨h2, h3, h4, h5, h6, h7, h8, h9, p, q, h10, h11, h12⟩
theorem MadeP.pre {E : List Edg} {pre : List Nat} {S : List Sc} {i : Nat} (h : MadeP E pre S i) (v : Nat) : MadeP E (pre ++ [v]) S i := by
  rcases h with h | ⟨h1, A, B, h2, h3, h4, h5, h6, h7, h8, h9, p, q, h10, h11, h12⟩
  · exact .inl h
  · exact .inr ⟨h1, A, B, h2, h3, h4, h5, h6, h7, h8, h9, p, q ++ [v], by rw [h10]; simp, h11, h12⟩
theorem made_add {E : List Edg} {pre : List Nat} {c : Ctr} {x : Sc} (h : ∀ i, i < c.S.length → MadeP E pre c.S i) (hx : MadeP E pre (c.S ++ [x]) c.S.length) : ∀ i, i < (c.add x).S.length → MadeP E pre (c.add x).S i := by
  by_cases hh : c.has x.f x.t x.w = true
  · rw [Ctr.add_yes hh]; exact h
  · rw [Ctr.add_no hh]
    intro i hi
    have hi' : i < (c.S ++ [x]).length := hi
    rw [List.length_append, List.length_singleton] at hi'
    rcases Nat.lt_or_ge i c.S.length with h5 | h5
    · exact (h i h5).app h5 x
    · have e : i = c.S.length := by omega
      rw [e]; exact hx
structure CtI (N : Nat) (E : List Edg) (pre : List Nat) (c : Ctr) : Prop where
  net : CtN N c
  gone : ∀ v, v < N → (bb c.G v = true ↔ v ∈ pre)
  sound : ∀ i, i < c.S.length → Way (fX N E) (gs c.S i).f (gs c.S i).t (gs c.S i).w
  made : ∀ i, i < c.S.length → MadeP E pre c.S i
  full : ∀ u w, u < N → w < N → u ∉ pre → w ∉ pre → u ≠ w → WyC N E (· ∈ pre) u w (dF N E u w) → ∃ i, c.at_ u w = some i ∧ (gs c.S i).w ≤ dF N E u w
section
variable {N : Nat} {E : List Edg}
theorem ends_in (hr : rightF N E = 0) {i : Nat} (hi : i < E.length) : fN E i < N ∧ tN E i < N := by
  obtain ⟨r1, r2, r3, r4, r5⟩ := right_in hr
  rw [Int.toNat_natCast] at r4
  have h1 := r4.f i hi
  have h2 := r4.t i hi
  unfold fN tN
  omega
theorem edges_ok (hr : rightF N E = 0) (hne : ∀ i, i < E.length → fN E i ≠ tN E i) (k : Nat) (hk : k ≤ E.length) : CtN N (Ctr.edges E k (ctr0 N)) ∧ (Ctr.edges E k (ctr0 N)).G = List.replicate N false ∧ (∀ i, i < (Ctr.edges E k (ctr0 N)).S.length → Way (fX N E) (gs (Ctr.edges E k (ctr0 N)).S i).f (gs (Ctr.edges E k (ctr0 N)).S i).t (gs (Ctr.edges E k (ctr0 N)).S i).w) ∧
    (∀ i, i < (Ctr.edges E k (ctr0 N)).S.length → MadeP E [] (Ctr.edges E k (ctr0 N)).S i) ∧ ∀ e, e < k → ∃ j, (Ctr.edges E k (ctr0 N)).at_ (fN E e) (tN E e) = some j ∧ (gs (Ctr.edges E k (ctr0 N)).S j).w ≤ (ge E e).w.toNat := by
  induction k with
  | zero =>
    refine ⟨⟨by simp [Ctr.edges, ctr0], by simp [Ctr.edges, ctr0], by simp [Ctr.edges, ctr0], fun u hu t w => ?_, fun u t i h => by simp [Ctr.edges, ctr0] at h, fun i hi => by simp [Ctr.edges, ctr0] at hi⟩, rfl, fun i hi => by simp [Ctr.edges, ctr0] at hi, fun i hi => by simp [Ctr.edges, ctr0] at hi, fun e he => by omega⟩
    simp [Ctr.edges, ctr0, ga, hu]
  | succ k ih =>
    obtain ⟨h1, h2, h3, h4, h5⟩ := ih (by omega)
    obtain ⟨n1, n2⟩ := ends_in hr (i := k) (by omega)
    have hadd := CtLe.add h1 ⟨fN E k, tN E k, (ge E k).w.toNat, (k : Int), -1, -1⟩
    refine ⟨h1.add n1 n2 (hne k (by omega)), by show (Ctr.add _ _).G = _; rw [(Ctr.add_G _ _).1]; exact h2, Ctr.add_all (P := fun _ s => Way (fX N E) s.f s.t s.w) h3 ?_, made_add h4 ?_, fun e he => ?_⟩
    · have := WyC.way (.one (N := N) (E := E) (C := fun _ => False) (u := fN E k) (i := k) (by omega) rfl)
      rwa [wtF_nil hr (by omega)] at this
    · exact .inl ⟨k, by omega, gs_end _ _⟩
    · rcases Nat.lt_or_ge e k with h | h
      · obtain ⟨j, q1, q2⟩ := h5 e h
        obtain ⟨m, q3, q4⟩ := hadd.1.less _ _ _ q1
        exact ⟨m, q3, Nat.le_trans q4 q2⟩
      · have e' : e = k := by omega
        rw [e']
        exact hadd.2
theorem ctrG_ok (hr : rightF N E = 0) (hne : ∀ i, i < E.length → fN E i ≠ tN E i) : CtI N E [] (ctrG N E) := by
  obtain ⟨h1, h2, h3, h4, h5⟩ := edges_ok hr hne E.length (Nat.le_refl _)
  refine ⟨h1, fun v hv => ?_, h3, h4, fun u w hu hw _ _ hne hw => ?_⟩
  · unfold ctrG
    rw [h2]
    simp [bb, hv]
  · generalize hd : dF N E u w = d at hw
    cases hw with
    | @one i hi e =>
      subst e
      obtain ⟨j, q1, q2⟩ := h5 i hi
      exact ⟨j, q1, by rw [wtF_nil hr hi]; exact q2⟩
    | snoc _ hx _ => cases hx
structure KpF (N : Nat) (pre : List Nat) (c : Ctr) (v : Nat) (k : Kp) : Prop where
  l1 : k.1 < N
  l2 : k.2.1 < N
  ne : k.1 ≠ k.2.1
  n1 : k.1 ≠ v
  n2 : k.2.1 ≠ v
  p1 : k.1 ∉ pre
  p2 : k.2.1 ∉ pre
  is : ∃ i j, c.at_ k.1 v = some i ∧ c.at_ v k.2.1 = some j ∧ (gs c.S i).w + (gs c.S j).w = k.2.2
theorem kp_facts {pre : List Nat} {c : Ctr} {hops settles v : Nat} (h : CtI N E pre c) (hv : v < N) {k : Kp} (hk : k ∈ keptL c.O c.G hops settles v) : KpF N pre c v k := by
  unfold keptL at hk
  obtain ⟨u, a, w, b, h1, h2, h3, h4, h5, _, rfl⟩ := (kpAll_mem _).1 hk
  obtain ⟨k1, k2⟩ := lgAll_ok c.O c.G v c.O.length
  rw [h.net.olen] at h1 h3
  obtain ⟨q1, q2, q3, q4⟩ := k1.is u a h2
  obtain ⟨z1, z2, z3, z4⟩ := k2.is w b h4
  obtain ⟨i, i1, i2⟩ := (h.net.arcs u h1 v a).1 q4
  obtain ⟨j, j1, j2⟩ := (h.net.arcs v hv w b).1 z4
  refine ⟨h1, h3, h5, q1, z1, fun hm => ?_, fun hm => ?_, i, j, i1, j1, by show _ = a + b; rw [i2, j2]⟩
  · rw [(h.gone u h1).2 hm] at q2; cases q2
  · rw [(h.gone w h3).2 hm] at z2; cases z2
structure AdI (N : Nat) (E : List Edg) (pre : List Nat) (c : Ctr) (v : Nat) (l : List Kp) (d : Ctr) : Prop where
  net : CtN N d
  le : CtLe c d
  g : d.G = c.G
  dp : d.D = c.D
  tv : ∀ u, d.at_ u v = c.at_ u v
  fv : ∀ w, d.at_ v w = c.at_ v w
  sound : ∀ i, i < d.S.length → Way (fX N E) (gs d.S i).f (gs d.S i).t (gs d.S i).w
  made : ∀ i, i < d.S.length → MadeP E (pre ++ [v]) d.S i
  all : ∀ k ∈ l, ∃ j, d.at_ k.1 k.2.1 = some j ∧ (gs d.S j).w ≤ k.2.2
theorem AdI.next {pre : List Nat} {c d : Ctr} {v : Nat} {l : List Kp} (h : AdI N E pre c v l d) (hc : CtI N E pre c) (_ : v ∉ pre) {k : Kp} (hk : KpF N pre c v k) : AdI N E pre c v (l ++ [k]) (d.add (kpSc d v k)) := by
  obtain ⟨i, j, i1, j1, ij⟩ := hk.is
  have e1 : d.at_ k.1 v = some i := by rw [h.tv]; exact i1
  have e2 : d.at_ v k.2.1 = some j := by rw [h.fv]; exact j1
  obtain ⟨a1, a2, a3⟩ := hc.net.at_in _ _ _ i1
  obtain ⟨b1, b2, b3⟩ := hc.net.at_in _ _ _ j1
  have hsc : kpSc d v k = ⟨k.1, k.2.1, k.2.2, -1, (i : Nat), (j : Nat)⟩ := by unfold kpSc; rw [e1, e2]; rfl
  have li : i < d.S.length := Nat.lt_of_lt_of_le a1 h.le.len
  have lj : j < d.S.length := Nat.lt_of_lt_of_le b1 h.le.len
  have gi' : gs d.S i = gs c.S i := h.le.old i a1
  have gj : gs d.S j = gs c.S j := h.le.old j b1
  have hadd := CtLe.add h.net (kpSc d v k)
  refine ⟨h.net.add hk.l1 hk.l2 hk.ne, h.le.trans hadd.1, (Ctr.add_G _ _).1.trans h.g, (Ctr.add_G _ _).2.trans h.dp, fun u => ?_, fun w => ?_, Ctr.add_all (P := fun _ s => Way (fX N E) s.f s.t s.w) h.sound ?_, made_add h.made ?_, fun m hm => ?_⟩
  · rw [Ctr.add_at (fun e => hk.n2 e.2.symm)]; exact h.tv u
  · rw [Ctr.add_at (fun e => hk.n1 e.1.symm)]; exact h.fv w
  · rw [hsc]
    have q1 := hc.sound i a1
    have q2 := hc.sound j b1
    rw [a2, a3] at q1
    rw [b2, b3] at q2
    show Way (fX N E) k.1 k.2.1 k.2.2
    rw [← ij]
    exact q1.trans q2
  · rw [hsc]
    refine .inr ⟨by rw [gs_end], i, j, ?_⟩
    rw [gs_end, gs_app li, gs_app lj, gi', gj, a2, a3, b2, b3]
    refine ⟨rfl, rfl, li, lj, rfl, rfl, rfl, ij, pre, [], rfl, ?_, ?_⟩
    · simp [hk.p1, hk.n1]
    · simp [hk.p2, hk.n2]
  · rcases List.mem_append.1 hm with hm | hm
    · obtain ⟨j', q1, q2⟩ := h.all m hm
      obtain ⟨m', q3, q4⟩ := hadd.1.less _ _ _ q1
      exact ⟨m', q3, Nat.le_trans q4 q2⟩
    · rw [List.mem_singleton] at hm
      subst hm
      exact hadd.2
theorem adds_ok {pre : List Nat} {c : Ctr} {v : Nat} (hc : CtI N E pre c) (hvp : v ∉ pre) (l : List Kp) : ∀ {done : List Kp} {d : Ctr}, AdI N E pre c v done d → (∀ k ∈ l, KpF N pre c v k) → AdI N E pre c v (done ++ l) (Ctr.adds v l d) := by
  induction l with
  | nil => intro done d h _; rw [List.append_nil]; exact h
  | cons k l ih =>
    intro done d h hl
    have := ih (h.next hc hvp (hl k (by simp))) (fun m hm => hl m (by simp [hm]))
    rw [List.append_assoc] at this
    exact this
theorem NWay.way {c : Ctr} {G : List Bool} {pre : List Nat} (h : CtI N E pre c) {s v d : Nat} (hs : s < N) (hw : NWay c.O G s v d) : Way (fX N E) s v d ∧ v < N := by
  induction hw with
  | here => exact ⟨.here, hs⟩
  | @step v d a _ ha _ ih =>
    obtain ⟨i1, i2⟩ := ih
    obtain ⟨i, q1, q2⟩ := (h.net.arcs v i2 a.1 a.2).1 ha
    obtain ⟨z1, z2, z3⟩ := h.net.at_in _ _ _ q1
    have := h.sound i z1
    rw [z2, z3, q2] at this
    have hn := (h.net.ends i z1).2.1
    rw [z3] at hn
    exact ⟨i1.trans this, hn⟩
theorem CtI.go (hr : rightF N E = 0) {pre : List Nat} {c : Ctr} {hops settles v : Nat} (h : CtI N E pre c) (hv : v < N) (hvp : v ∉ pre) : CtI N E (pre ++ [v]) (Ctr.go hops settles c v) := by
  have ha : AdI N E pre c v (keptL c.O c.G hops settles v) (Ctr.adds v (keptL c.O c.G hops settles v) c) := by
    have := adds_ok h hvp (keptL c.O c.G hops settles v) (done := []) (d := c) ⟨h.net, CtLe.refl c, rfl, rfl, fun _ => rfl, fun _ => rfl, h.sound, fun i hi => (h.made i hi).pre v, fun k hk => by cases hk⟩ (fun k hk => kp_facts h hv hk)
    rwa [List.nil_append] at this
  have hglen : (Ctr.adds v (keptL c.O c.G hops settles v) c).G.length = N := ha.net.glen
  refine ⟨⟨ha.net.olen, by show (List.set _ _ _).length = N; rw [List.length_set]; exact hglen, by show (deepL _ _ _).length = N; unfold deepL; simp [ha.net.dlen], ha.net.arcs, ha.net.at_in, ha.net.ends⟩, fun u hu => ?_, ha.sound, ha.made, fun u w hu hw hup hwp hne hwi => ?_⟩
  · show bb (List.set _ v true) u = true ↔ _
    rw [bb_set _ _ _ _ (by rw [hglen]; exact hv), ha.g]
    by_cases e : u = v
    · simp [e]
    · rw [if_neg e, h.gone u hu]
      simp [e]
  · have hup1 : u ∉ pre := fun e => hup (by simp [e])
    have huv : u ≠ v := fun e => hup (by simp [e])
    have hwp1 : w ∉ pre := fun e => hwp (by simp [e])
    have hwv : w ≠ v := fun e => hwp (by simp [e])
    have hwi2 : WyC N E (fun x => x ∈ pre ∨ x = v) u w (dF N E u w) := hwi.mono fun x hx => by simpa using hx
    rcases hwi2.split with h1 | ⟨f1, f2, h1, h2, h3⟩
    · obtain ⟨i, q1, q2⟩ := h.full u w hu hw hup1 hwp1 hne h1
      obtain ⟨j, q3, q4⟩ := ha.le.less _ _ _ q1
      exact ⟨j, q3, Nat.le_trans q4 q2⟩
    · have d1 := dF_le hr hu hv h1.way
      have d2 := dF_le hr hv hw h2.way
      have d3 := dF_le hr hu hw (d1.2.1.trans d2.2.1)
      have e1 : f1 = dF N E u v := by omega
      have e2 : f2 = dF N E v w := by omega
      rw [e1] at h1
      rw [e2] at h2
      obtain ⟨i, i1, i2⟩ := h.full u v hu hv hup1 hvp huv h1
      obtain ⟨j, j1, j2⟩ := h.full v w hv hw hvp hwp1 (Ne.symm hwv) h2
      obtain ⟨k1, k2⟩ := lgAll_ok c.O c.G v c.O.length
      have gu : bb c.G u = false := by
        cases hb : bb c.G u with
        | true => exact absurd ((h.gone u hu).1 hb) hup1
        | false => rfl
      have gw : bb c.G w = false := by
        cases hb : bb c.G w with
        | true => exact absurd ((h.gone w hw).1 hb) hwp1
        | false => rfl
      have ol := h.net.olen
      obtain ⟨a, a1, a2⟩ := k1.all u _ huv gu ⟨by rw [ol]; exact hu, (h.net.arcs u hu v _).2 ⟨i, i1, rfl⟩⟩
      obtain ⟨b, b1, b2⟩ := k2.all w _ hwv gw ⟨by rw [ol]; exact hv, (h.net.arcs v hv w _).2 ⟨j, j1, rfl⟩⟩
      cases hf : wsFind c.O (c.G.set v true) u w (a + b) hops settles with
      | none =>
        have hk : (u, w, a + b) ∈ keptL c.O c.G hops settles v := (kpAll_mem _).2 ⟨u, a, w, b, by rw [ol]; exact hu, a1, by rw [ol]; exact hw, b1, hne, hf, rfl⟩
        obtain ⟨m, m1, m2⟩ := ha.all _ hk
        exact ⟨m, m1, Nat.le_trans m2 (show a + b ≤ dF N E u w from by omega)⟩
      | some d =>
        obtain ⟨s1, s2⟩ := wsFind_sound h.net.nin (by rw [ol]; exact hu) hf
        have := (dF_le hr hu hw (NWay.way h hu s2).1).1
        omega
def Ctr.goAll (hops settles : Nat) (vs : List Nat) (c : Ctr) : Ctr := vs.foldl (Ctr.go hops settles) c
theorem goAll_snoc (hops settles : Nat) (vs : List Nat) (v : Nat) (c : Ctr) : Ctr.goAll hops settles (vs ++ [v]) c = Ctr.go hops settles (Ctr.goAll hops settles vs c) v := by
  unfold Ctr.goAll
  rw [List.foldl_append]
  rfl
theorem goAll_from (hr : rightF N E = 0) {hops settles : Nat} (vs : List Nat) : ∀ {pre : List Nat} {c : Ctr}, CtI N E pre c → (pre ++ vs).Nodup → (∀ v ∈ vs, v < N) → CtI N E (pre ++ vs) (Ctr.goAll hops settles vs c) := by
  induction vs with
  | nil => intro pre c h _ _; rw [List.append_nil]; exact h
  | cons v vs ih =>
    intro pre c h hd hv
    have e : pre ++ v :: vs = (pre ++ [v]) ++ vs := by simp
    rw [e] at hd ⊢
    refine ih (h.go hr (hv v (by simp)) fun hm => ?_) hd fun u hu => hv u (by simp [hu])
    obtain ⟨h1, _, _⟩ := List.nodup_append.1 hd
    obtain ⟨_, _, h3⟩ := List.nodup_append.1 h1
    exact h3 v hm v (by simp) rfl
theorem goAll_ok (hr : rightF N E = 0) (hne : ∀ i, i < E.length → fN E i ≠ tN E i) {hops settles : Nat} (vs : List Nat) (hd : vs.Nodup) (hv : ∀ v ∈ vs, v < N) : CtI N E vs (Ctr.goAll hops settles vs (ctrG N E)) := by
  have := goAll_from hr (hops := hops) (settles := settles) vs (ctrG_ok hr hne) (by simpa using hd) hv
  simpa using this
end
end Go.Proofs.Ytgplpgldhoelcaa

namespace Go.Proofs.Ytgplpgldhoelcaa
open Go Go.RowKit
section
variable {N : Nat} {E : List Edg}
theorem CtI.go_le {pre : List Nat} {c : Ctr} {hops settles v : Nat} (h : CtI N E pre c) (hv : v < N) (hvp : v ∉ pre) : CtLe c (Ctr.go hops settles c v) := by
  have ha : AdI N E pre c v (keptL c.O c.G hops settles v) (Ctr.adds v (keptL c.O c.G hops settles v) c) := by
    have := adds_ok h hvp (keptL c.O c.G hops settles v) (done := []) (d := c) ⟨h.net, CtLe.refl c, rfl, rfl, fun _ => rfl, fun _ => rfl, h.sound, fun i hi => (h.made i hi).pre v, fun k hk => by cases hk⟩ (fun k hk => kp_facts h hv hk)
    rwa [List.nil_append] at this
  exact ⟨ha.le.len, ha.le.old, ha.le.less⟩
theorem goAll_le (hr : rightF N E = 0) {hops settles : Nat} (vs : List Nat) : ∀ {pre : List Nat} {c : Ctr}, CtI N E pre c → (pre ++ vs).Nodup → (∀ v ∈ vs, v < N) → CtLe c (Ctr.goAll hops settles vs c) := by
  induction vs with
  | nil => exact fun _ _ _ => CtLe.refl _
  | cons v vs ih =>
    intro pre c h hd hv
    have hvp : v ∉ pre := fun hm => (List.nodup_append.1 hd).2.2 v hm v (by simp) rfl
    have e : pre ++ v :: vs = (pre ++ [v]) ++ vs := by simp
    rw [e] at hd
    exact (h.go_le (hv v (by simp)) hvp).trans (ih (h.go hr (hv v (by simp)) hvp) hd fun u hu => hv u (by simp [hu]))
theorem built_full (hr : rightF N E = 0) (hne : ∀ i, i < E.length → fN E i ≠ tN E i) {hops settles : Nat} {p q : List Nat} (hd : (p ++ q).Nodup) (hv : ∀ v ∈ p ++ q, v < N) {u w : Nat} (hu : u < N) (hw : w < N) (hup : u ∉ p) (hwp : w ∉ p) (huw : u ≠ w) (hwi : WyC N E (· ∈ p) u w (dF N E u w)) :
    ∃ i, i < (Ctr.goAll hops settles (p ++ q) (ctrG N E)).S.length ∧ (gs (Ctr.goAll hops settles (p ++ q) (ctrG N E)).S i).f = u ∧ (gs (Ctr.goAll hops settles (p ++ q) (ctrG N E)).S i).t = w ∧ (gs (Ctr.goAll hops settles (p ++ q) (ctrG N E)).S i).w = dF N E u w := by
  have e : Ctr.goAll hops settles (p ++ q) (ctrG N E) = Ctr.goAll hops settles q (Ctr.goAll hops settles p (ctrG N E)) := by unfold Ctr.goAll; rw [List.foldl_append]
  obtain ⟨d1, _, _⟩ := List.nodup_append.1 hd
  have hp := goAll_ok hr hne (hops := hops) (settles := settles) p d1 fun v h => hv v (by simp [h])
  obtain ⟨i, i1, i2⟩ := hp.full u w hu hw hup hwp huw hwi
  obtain ⟨z1, z2, z3⟩ := hp.net.at_in _ _ _ i1
  have hs := hp.sound i z1
  rw [z2, z3] at hs
  have := (dF_le hr hu hw hs).1
  have hle := goAll_le hr (hops := hops) (settles := settles) q hp hd fun v h => hv v (by simp [h])
  rw [e]
  refine ⟨i, Nat.lt_of_lt_of_le z1 hle.len, ?_⟩
  rw [hle.old i z1]
  exact ⟨z2, z3, by omega⟩
theorem WyC.pos (hr : rightF N E = 0) {C : Nat → Prop} {u w f : Nat} (h : WyC N E C u w f) : 1 ≤ f := by
  cases h with
  | @one i hi e => exact (noO_w hr i hi).1
  | @snoc f i _ _ hi => have := (noO_w hr i hi).1; omega
theorem short_nn {s : Nat} {o : DOpt} (hok : WalkOk N s E o) (hW : o.W = []) (hnn : (s : Int) ∉ o.nn) (hm : o.most = 0) {v : Nat} (hv : v < N) :
    (gn (refL (srchOf N E o) s) v < farV ∧ Way (srchOf N E o) s v (gn (refL (srchOf N E o) s) v) ∧ ∀ g, Way (srchOf N E o) s v g → gn (refL (srchOf N E o) s) v ≤ g) ∨
    (gn (refL (srchOf N E o) s) v = farV ∧ ∀ g, ¬ Way (srchOf N E o) s v g) := by
  have hr := hok.right
  obtain ⟨r1, r2, r3, r4, r5⟩ := right_in hok.right
  rw [Int.toNat_natCast] at r4
  have hb : N * 17592186044416 < farV := by
    have : N * 17592186044416 ≤ 4096 * 17592186044416 := Nat.mul_le_mul_right _ (by omega)
    unfold farV; omega
  have hw : ∀ i, i < E.length → 1 ≤ gn (wtF N E o.W) i ∧ gn (wtF N E o.W) i ≤ 17592186044416 := fun i hi => by rw [hW]; exact noO_w hr (i := i) hi
  obtain ⟨xs, h1, h2, h3⟩ := walk_is hok hw (Nat.le_refl _) hnn
  have hs2 := hok.srch
  have hin : SrchIn (srchOf N E o) 17592186044416 := ⟨fun i hi => by
    have h1 := hs2.ends.f i hi
    have h2 := hs2.ends.t i hi
    unfold toE
    split
    · exact h1.1
    · exact h2.1, fun i hi => (hw i hi).1, fun i hi => (hw i hi).2⟩
  obtain ⟨ys, h4, h5⟩ := trace_whole (x := freeX (srchOf N E o)) (s := s) (mw := 17592186044416) ⟨hin.ends, hin.low, hin.high⟩ hs2.nodes hok.node (by omega)
  have hd : decide ((s : Int) ∈ o.nn) = false := decide_eq_false hnn
  have e : refL (srchOf N E o) s = outL N xs := refL_is h2 h5 hin hb hok.node hd (fun i hi => by
    have h1 := hs2.ends.f i hi
    have h2 := hs2.ends.t i hi
    unfold nN
    split
    · exact h2.1
    · exact h1.1)
  rw [e]
  rcases outL_cases h2 hb (v := v) hv with ⟨a, b⟩ | ⟨a, b⟩
  · exact .inl ⟨b, (h2.way _ _ a).2.1, fun g hg => by
      obtain ⟨g', h6, h7⟩ := h2.all v g hg (fun h => absurd hm (by have : 0 < o.most := h; omega))
      have e2 := outL_at h2.nodup (N := N) hv h6
      rw [e2]; exact h7⟩
  · exact .inr ⟨a, fun g hg => by
      obtain ⟨g', h6, _⟩ := h2.all v g hg (fun h => absurd hm (by have : 0 < o.most := h; omega))
      exact b g' h6⟩
abbrev noN (nn : List Int) : DOpt := ⟨false, nn, [], [], 0⟩
theorem way_past {u w f : Nat} {nn : List Int} (h : Way (srchOf N E (noN nn)) u w f) : (w = u ∧ f = 0) ∨ (WyC N E (fun x => (x : Int) ∉ nn) u w f ∧ (w : Int) ∉ nn) := by
  induction h with
  | here => exact .inl ⟨rfl, rfl⟩
  | @step f i h hi hc ih =>
    have hx : ((tN E i : Nat) : Int) ∉ nn := fun e => by
      unfold cntE at hc
      have : (srchOf N E (noN nn)).nn (toE (srchOf N E (noN nn)) i) = decide (((tN E i : Nat) : Int) ∈ nn) := rfl
      rw [this, decide_eq_true e] at hc
      simp at hc
    rcases ih with ⟨e1, e2⟩ | ⟨h1, h2⟩
    · refine .inr ⟨?_, hx⟩
      have e3 : fN E i = u := e1
      have := WyC.one (N := N) (C := fun x => (x : Int) ∉ nn) hi e3
      rw [e2]
      have e4 : 0 + gn (srchOf N E (noN nn)).W i = gn (wtF N E []) i := by rw [Nat.zero_add]; rfl
      rw [e4]
      exact this
    · exact .inr ⟨.snoc h1 h2 hi, hx⟩
theorem below_way (hr : rightF N E = 0) {u w : Nat} {nn : List Int} {p : List Nat} (hu : u < N) (hw : w < N) (huw : u ≠ w) (hnu : (u : Int) ∉ nn) (hl : nn.length ≤ 1000000) (hp : ∀ x : Nat, x < N → x ≠ u → x ≠ w → (x : Int) ∉ nn → x ∈ p) (hd : dF N E u w < farV) (hb : gn (refL (srchOf N E (noN nn)) u) w = dF N E u w) :
    WyC N E (· ∈ p) u w (dF N E u w) := by
  have hok : WalkOk N u E (noN nn) := ⟨hr, hu, .inl rfl, by show 0 < _; omega, by show nn.length ≤ _; exact hl, by show ([] : List Int).length ≤ _; simp⟩
  rcases short_nn hok rfl hnu rfl (v := w) hw with ⟨_, h2, _⟩ | ⟨h1, _⟩
  · rw [hb] at h2
    rcases way_past h2 with ⟨e, _⟩ | ⟨h3, _⟩
    · exact absurd e.symm huw
    · have hin : ∀ {x f}, WyC N E (fun x => (x : Int) ∉ nn) u x f → WyC N E (fun x => (x ∈ p ∨ x = u) ∨ x = w) u x f := fun {x f} h => by
        induction h with
        | one hi e => exact .one hi e
        | @snoc f i _ hx hi ih =>
          refine .snoc ih ?_ hi
          by_cases e1 : fN E i = u
          · exact .inl (.inr e1)
          · by_cases e2 : fN E i = w
            · exact .inr e2
            · exact .inl (.inl (hp _ (ends_in hr hi).1 e1 e2 hx))
      rcases (hin h3).split with h4 | ⟨f1, f2, h4, h5, h6⟩
      · rcases h4.split with h5 | ⟨f1, f2, h5, h6, h7⟩
        · exact h5
        · have := (dF_le hr hu hw h6.way).1
          have := h5.pos hr
          omega
      · have := (dF_le hr hu hw h4.way).1
        have := h5.pos hr
        omega
  · omega
end
end Go.Proofs.Ytgplpgldhoelcaa

