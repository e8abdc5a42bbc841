/- Contract: is a row of edges a way on which no node comes twice? -/
import Derived.Test.YtgplpgldhoelcaaGreatQPenWays00
import Derived.Test.YtgplpgldhoelcaaGreatQPenWays06
import Derived.Test.YtgplpgldhoelcaaGreatQPenWays16
namespace Go.Proofs.YtgplpgldhoelcaaGreat
open Go Go.RowKit
def oneB (l : List Int) (k : Nat) : Bool := decide (∀ j, j < k → gi l j ∉ l.take j)
def simB (N : Int) (E : List Edg) (s : Int) (l : List Int) : Bool := isB N E s l && oneB (nodesL N E s l) (nodesL N E s l).length
set_option maxRecDepth 20000 in
set_option maxHeartbeats 2000000 in
theorem r8Simple (N : Int) (A : Option Addr) (m c : Nat) (E : List Edg) (s : Int) (B : Option Addr) (n d : Nat) (l : List Int) (w : World) (h : Rd w A 3 m (esCells E)) (hm : m ≤ 1000000) (h' : Rd w B 1 n (l.map (.int .i64))) (hn : n ≤ 100000) :
    Calls Tryz.prog 23 #[.agg #[.int .i64 N, .slice A m c], .int .i64 s, .slice B n d] w fun e w' => e = .returned (.bool (simB N E s l)) ∧ Grows w w' := by
  have HV : Hid (simB N E s l = (isB N E s l && oneB (nodesL N E s l) (nodesL N E s l).length)) := rfl
  have hlen : (nodesL N E s l).length ≤ 100001 := by
    have : l.length = n := by simpa using h'.len
    unfold nodesL
    split
    · rw [ndL_len]; omega
    · simp
  have C1 := hide (fun (W : World) (g : Grows w W) => r8NodesC N A m c E s B n d l W (h.grows g) hm (h'.grows g) (by omega))
  clear h h'
  generalize nodesL N E s l = nl at *
  generalize isB N E s l = bb at *
  go_enter Tryz.func23, Tryz.ntmps23
  go_wp2_with (go_at_call 74; refine (C1.out _ GG).mono ?_; rintro e w' ⟨A1, c1, rfl, hc1, hr1, hg⟩; obtain ⟨x1, rfl⟩ := hg.later; have HR := hide hr1; have HC := hide hc1; clear hg hr1 hc1)
  go_loopw [9] (fun i wr => ∃ k : Nat, k ≤ nl.length ∧ i = .int .i64 (k : Int) ∧ (∃ y : Later x1.now, wr = y.now) ∧ Hid (∀ j, j < k → gi nl j ∉ nl.take j)) (fun i _ => nl.length - (intOf i).toNat)
  case atStart => exact ⟨0, by omega, by go_num, ⟨⟨_, Grows.refl _⟩, rfl⟩, fun j h => by omega⟩
  case round =>
    obtain ⟨k, hk, rfl, ⟨y, rfl⟩, HA⟩ := hrel
    by_cases hend : nl.length ≤ k
    · have HW : Hid (oneB nl nl.length = true) := decide_eq_true (fun j hj => HA.out j (by omega))
      go_wp2
      go_ret
      exact ⟨ret_bool (by rw [HV.out, HW.out, Bool.and_true]), GG⟩
    · obtain ⟨b, off, rfl, hc⟩ := HR.out.intsH (by omega)
      have c1' := hc k (by omega)
      clear hc
      have hcap : k ≤ c1 := by have := HC.out; omega
      have D1 := fun (W : World) (g : Grows x1.now W) => calls_same (r1Has (some ⟨b, off, none⟩) k c1 (nl.take k) (gi nl k) W (Rd.take (HR.out.grows g) (by omega)) (by omega))
      cases hin : decide (gi nl k ∈ nl.take k) with
      | true =>
        have HW : Hid (oneB nl nl.length = false) := decide_eq_false (fun h => h k (by omega) (of_decide_eq_true hin))
        rw [hin] at D1
        have K1 := hide D1
        clear D1 hin
        go_wp2_with fail
        ((first | refine wp_region_gen (by kernel_rfl) (by kernel_rfl) ?_); (repeat' ((first | refine gLex_val0 rfl (by kernel_rfl) (fun K hK => ?_) | refine gLex_undef rfl rfl rfl (by kernel_rfl) (fun K hK => ?_) | (refine gLex_ask rfl rfl rfl ?_; first | (apply gAsk_yes; kernel_rfl; intro K hK) | ((first | apply gAsk_no1 | apply gAsk_no2); kernel_rfl; intro K hK) | (apply gAsk_part; kernel_rfl; all_goals (intro h K hK; (try simp only [Bool.not_true] at h); (try simp only [Bool.not_false] at h); (try simp only [decide_eq_true_eq] at h); (try simp only [decide_eq_false_iff_not] at h); try (exfalso; first | contradiction | omega))))) <;> (go_simp; (try (simp only [↓IntWalk.iteOmega]; try go_simp)); (try simp (disch := omega) only [IntWalk.i64_in]); (try simp (disch := omega) only [IntWalk.u64_in]); first | (refine hK _ ?_; clear hK K) | (apply Exists.intro; refine ⟨fun x => ?_, hK _ ?_⟩; (first | (go_at_call 57; exact K1.out _ GG)); clear hK K)))); all_goals ((apply gLex_end); intro x))
        go_wp2
        go_ret
        exact ⟨ret_bool (by rw [HV.out, HW.out, Bool.and_false]), GG⟩
      | false =>
        have HN : Hid (∀ j, j < k + 1 → gi nl j ∉ nl.take j) := fun j hj => by
          by_cases e : j = k
          · rw [e]; exact of_decide_eq_false hin
          · exact HA.out j (by omega)
        rw [hin] at D1
        have K1 := hide D1
        clear D1 hin
        go_wp2_with fail
        ((first | refine wp_region_gen (by kernel_rfl) (by kernel_rfl) ?_); (repeat' ((first | refine gLex_val0 rfl (by kernel_rfl) (fun K hK => ?_) | refine gLex_undef rfl rfl rfl (by kernel_rfl) (fun K hK => ?_) | (refine gLex_ask rfl rfl rfl ?_; first | (apply gAsk_yes; kernel_rfl; intro K hK) | ((first | apply gAsk_no1 | apply gAsk_no2); kernel_rfl; intro K hK) | (apply gAsk_part; kernel_rfl; all_goals (intro h K hK; (try simp only [Bool.not_true] at h); (try simp only [Bool.not_false] at h); (try simp only [decide_eq_true_eq] at h); (try simp only [decide_eq_false_iff_not] at h); try (exfalso; first | contradiction | omega))))) <;> (go_simp; (try (simp only [↓IntWalk.iteOmega]; try go_simp)); (try simp (disch := omega) only [IntWalk.i64_in]); (try simp (disch := omega) only [IntWalk.u64_in]); first | (refine hK _ ?_; clear hK K) | (apply Exists.intro; refine ⟨fun x => ?_, hK _ ?_⟩; (first | (go_at_call 57; exact K1.out _ GG)); clear hK K)))); all_goals ((apply gLex_end); intro x))
        go_wp2
        exact ⟨⟨k + 1, by omega, by go_num, Grows.later GG, HN⟩, by simp [intOf]; omega⟩
end Go.Proofs.YtgplpgldhoelcaaGreat

namespace Go.Proofs.YtgplpgldhoelcaaGreat
open Go Go.RowKit

def fsK (W : Int → Int) (q : Int → Bool) (l : List Int) : Nat → Int
  | 0 => 0
  | k + 1 => fsK W q l k + (if q (gi l k) && !decide (gi l k ∈ l.take k) then W (gi l k) else 0)
def sumTo (g : Nat → Int) : Nat → Int
  | 0 => 0
  | n + 1 => sumTo g n + g n
theorem sumTo_congr {g h : Nat → Int} {n : Nat} (e : ∀ j, j < n → g j = h j) : sumTo g n = sumTo h n := by
  induction n with
  | zero => rfl
  | succ n ih => unfold sumTo; rw [ih fun j hj => e j (by omega), e n (by omega)]
theorem sumTo_zero {g : Nat → Int} {n : Nat} (e : ∀ j, j < n → g j = 0) : sumTo g n = 0 := by
  induction n with
  | zero => rfl
  | succ n ih => unfold sumTo; rw [ih fun j hj => e j (by omega), e n (by omega)]; rfl
theorem sumTo_one {g h : Nat → Int} {n x : Nat} {v : Int} (hx : x < n) (e : ∀ j, j ≠ x → g j = h j) (ex : g x = h x + v) : sumTo g n = sumTo h n + v := by
  induction n with
  | zero => omega
  | succ n ih =>
    unfold sumTo
    by_cases hn : x = n
    · subst hn
      rw [sumTo_congr (n := x) fun j hj => e j (by omega), ex]
      omega
    · rw [ih (by omega), e n (by omega)]
      omega
theorem take_mem_succ {l : List Int} {k : Nat} (hk : k < l.length) (x : Int) : x ∈ l.take (k + 1) ↔ x ∈ l.take k ∨ x = gi l k := by
  rw [List.take_succ_eq_append_getElem hk, List.mem_append, List.mem_singleton]
  have : gi l k = l[k] := by simp [gi, hk]
  rw [this]
theorem fsK_sum {W : Int → Int} {q : Int → Bool} {l : List Int} {m : Nat} (hl : ∀ j, j < l.length → 0 ≤ gi l j ∧ gi l j < m) : ∀ k, k ≤ l.length →
    fsK W q l k = sumTo (fun j => if (j : Int) ∈ l.take k ∧ q j = true then W j else 0) m
  | 0, _ => by
    rw [show fsK W q l 0 = 0 from rfl, sumTo_zero fun j _ => by simp]
  | k + 1, hk => by
    have ih := fsK_sum (W := W) (q := q) hl k (by omega)
    obtain ⟨h1, h2⟩ := hl k (by omega)
    rw [show fsK W q l (k + 1) = fsK W q l k + (if q (gi l k) && !decide (gi l k ∈ l.take k) then W (gi l k) else 0) from rfl, ih]
    by_cases hm : gi l k ∈ l.take k
    · rw [decide_eq_true hm]
      simp only [Bool.not_true, Bool.and_false, Bool.false_eq_true, if_false, Int.add_zero]
      refine sumTo_congr fun j _ => ?_
      have : ((j : Int) ∈ l.take (k + 1)) ↔ (j : Int) ∈ l.take k := by
        rw [take_mem_succ (by omega)]
        exact ⟨fun h => h.elim id (fun e => e ▸ hm), .inl⟩
      simp only [this]
    · rw [decide_eq_false hm]
      refine (sumTo_one (x := (gi l k).toNat) (by omega) (fun j hj => ?_) ?_).symm
      · have : ((j : Int) ∈ l.take (k + 1)) ↔ (j : Int) ∈ l.take k := by
          rw [take_mem_succ (by omega)]
          exact ⟨fun h => h.elim id (fun e => by omega), .inl⟩
        simp only [this]
      · have e : (((gi l k).toNat : Nat) : Int) = gi l k := by omega
        have h3 : gi l k ∈ l.take (k + 1) := (take_mem_succ (by omega) _).2 (.inr rfl)
        simp only [e, h3, hm, true_and, false_and, if_false, Bool.not_false, Bool.and_true]
        cases q (gi l k) <;> simp
theorem shared_same {W : Int → Int} {a b : List Int} {m : Nat} (ha : ∀ j, j < a.length → 0 ≤ gi a j ∧ gi a j < m) (hb : ∀ j, j < b.length → 0 ≤ gi b j ∧ gi b j < m) :
    fsK W (fun x => decide (x ∈ b)) a a.length = fsK W (fun x => decide (x ∈ a)) b b.length := by
  rw [fsK_sum ha _ (Nat.le_refl _), fsK_sum hb _ (Nat.le_refl _)]
  refine sumTo_congr fun j _ => ?_
  simp only [List.take_length, decide_eq_true_eq, and_comm]

def eWt (E : List Edg) (e : Int) : Int := (ge E e.toNat).w
def sharedV (N : Int) (E : List Edg) (a b : List Int) : Int := if edgesB N E a && edgesB N E b then IntKind.u64.wrap (fsK (eWt E) (fun x => decide (x ∈ a)) b b.length) else 0

theorem edgesB_spec {N : Int} {E : List Edg} {l : List Int} (h : edgesB N E l = true) : rightF N E = 0 ∧ ∀ j, j < l.length → 0 ≤ gi l j ∧ gi l j < E.length := by
  unfold edgesB at h
  simp only [Bool.and_eq_true, decide_eq_true_eq, Bool.not_eq_true', List.any_eq_false] at h
  refine ⟨h.1, fun j hj => ?_⟩
  have := h.2 _ (gi_mem hj)
  simpa [edgeB] using this

end Go.Proofs.YtgplpgldhoelcaaGreat

namespace Go.Proofs.YtgplpgldhoelcaaGreat
open Go Go.RowKit Go.Maps
theorem wrap_add_wrap (a b : Int) : IntKind.u64.wrap (IntKind.u64.wrap a + b) = IntKind.u64.wrap (a + b) := by
  rw [IntKind.wrap_u64, IntKind.wrap_u64, IntKind.wrap_u64]
  omega
theorem fsK_step (W : Int → Int) (q : Int → Bool) (l : List Int) (k : Nat) : fsK W q l (k + 1) = fsK W q l k + (if q (gi l k) && !decide (gi l k ∈ l.take k) then W (gi l k) else 0) := rfl

set_option maxRecDepth 20000 in
set_option maxHeartbeats 4000000 in
theorem pShared (N : Int) (A : Option Addr) (m c : Nat) (E : List Edg) (B : Option Addr) (n d : Nat) (a : List Int) (B' : Option Addr) (n' d' : Nat) (b : List Int) (w : World) (h : Rd w A 3 m (esCells E)) (hm : m ≤ 1000000)
    (ha : Rd w B 1 n (a.map (.int .i64))) (hn : n ≤ 1000000) (hb : Rd w B' 1 n' (b.map (.int .i64))) (hn' : n' ≤ 1000000) :
    Calls Tryz.prog 205 #[.agg #[.int .i64 N, .slice A m c], .slice B n d, .slice B' n' d'] w fun e w' => e = .returned (.int .u64 (sharedV N E a b)) ∧ Grows w w' := by
  have HL := hide h.elen
  have HLa := hide (show a.length = n by simpa using ha.len)
  have HLb := hide (show b.length = n' by simpa using hb.len)
  have HR := hide h
  have HRa := hide ha
  have HRb := hide hb
  have HR0 := hide (h.new (.cells #[.int .i64 N, .slice A m c] 35))
  have HRa0 := hide (ha.new (.cells #[.int .i64 N, .slice A m c] 35))
  have HRb0 := hide (hb.new (.cells #[.int .i64 N, .slice A m c] 35))
  clear h ha hb
  have C1 := fun (W : World) (g : Grows w W) => pEdges N A m c E B n d a W (HR.out.grows g) hm (HRa.out.grows g) hn
  have C2 := fun (W : World) (g : Grows w W) => pEdges N A m c E B' n' d' b W (HR.out.grows g) hm (HRb.out.grows g) hn'
  cases h1 : edgesB N E a with
  | false =>
    have HW : Hid (sharedV N E a b = 0) := by unfold sharedV; rw [h1]; rfl
    rw [h1] at C1
    have H1 := hide C1
    clear C1 C2 h1
    go_enter Tryz.func205, Tryz.ntmps205
    go_wp2_with fail
    refine (H1.out _ GG).mono ?_; rintro e w' ⟨rfl, hg⟩; obtain ⟨x1, rfl⟩ := Grows.later hg; clear hg
    go_wp2
    go_ret
    exact ⟨ret_int HW.out.symm, GG⟩
  | true =>
  cases h2 : edgesB N E b with
  | false =>
    have HW : Hid (sharedV N E a b = 0) := by unfold sharedV; rw [h1, h2]; rfl
    rw [h1] at C1
    rw [h2] at C2
    have H1 := hide C1
    have H2 := hide C2
    clear C1 C2 h1 h2
    go_enter Tryz.func205, Tryz.ntmps205
    go_wp2_with fail
    refine (H1.out _ GG).mono ?_; rintro e w' ⟨rfl, hg⟩; obtain ⟨x1, rfl⟩ := Grows.later hg; clear hg
    go_wp2_with fail
    refine (H2.out _ GG).mono ?_; rintro e w' ⟨rfl, hg⟩; obtain ⟨x2, rfl⟩ := Grows.later2 hg; clear hg
    go_wp2
    go_ret
    exact ⟨ret_int HW.out.symm, GG⟩
  | true =>
    have HW : Hid (sharedV N E a b = IntKind.u64.wrap (fsK (eWt E) (fun x => decide (x ∈ a)) b b.length)) := by unfold sharedV; rw [h1, h2]; rfl
    have HA := hide (edgesB_spec h1).2
    have HB := hide (edgesB_spec h2).2
    rw [h1] at C1
    rw [h2] at C2
    have H1 := hide C1
    have H2 := hide C2
    clear C1 C2 h1 h2
    have hmm := @run_makeMap Tryz.prog
    go_enter Tryz.func205, Tryz.ntmps205
    go_wp2_with fail
    refine (H1.out _ GG).mono ?_; rintro e w' ⟨rfl, hg⟩; obtain ⟨x1, rfl⟩ := Grows.later hg; clear hg
    go_wp2_with fail
    refine (H2.out _ GG).mono ?_; rintro e w' ⟨rfl, hg⟩; obtain ⟨x2, rfl⟩ := Grows.later2 hg; clear hg
    go_wp2
    have hx2 : w.heap.size + 1 ≤ x2.now.heap.size := by have := x2.size; simp at this; omega
    have HM := hide (MapII.made x2.now)
    have hG := (x2.grows.new (.map #[] 0)).later
    generalize hMB : x2.now.heap.size = M at *
    clear hMB
    have HG := hide hG
    clear hG
    go_loopw [27] (fun i wr => ∃ k : Nat, k ≤ n ∧ i = .int .i64 (k : Int) ∧ (∃ y : Later (w.alloc (.cells #[.int .i64 N, .slice A m c] 35)), wr = y.now) ∧ ∃ s, MapII wr M k s (fun z => if z ∈ a.take k then some z else none)) (fun i _ => n - (intOf i).toNat)
    case atStart => exact ⟨0, by omega, by go_num, HG.out, 0, by simpa using HM.out⟩
    case round =>
      obtain ⟨q, hq, rfl, ⟨y, rfl⟩, s, hmap⟩ := hrel
      by_cases hend : n ≤ q
      · have hd : decide (q < n) = false := by simp; omega
        have HM2 : Hid (MapII y.now M n s (fun z => if decide (z ∈ a) && !decide (z ∈ b.take 0) then some z else none)) := by
          have hq' : q = n := by omega
          have e : a.take n = a := by rw [← HLa.out]; exact List.take_length
          rw [hq', e] at hmap
          simpa [Hid] using hmap
        clear hmap HM HG
        go_wp2_with fail
        go_loopw [37, 6] (fun i u wr => ∃ k : Nat, k ≤ n' ∧ i = .int .i64 (k : Int) ∧ u = .int .u64 (IntKind.u64.wrap (fsK (eWt E) (fun x => decide (x ∈ a)) b k)) ∧ (∃ y : Later (w.alloc (.cells #[.int .i64 N, .slice A m c] 35)), wr = y.now) ∧
          ∃ s, MapII wr M n s (fun z => if decide (z ∈ a) && !decide (z ∈ b.take k) then some z else none)) (fun i _ _ => n' - (intOf i).toNat)
        case atStart => exact ⟨0, by omega, by go_num, by simp [fsK, IntKind.wrap_u64], ⟨_, rfl⟩, s, HM2.out⟩
        case round =>
          obtain ⟨r, hr, rfl, rfl, ⟨v, rfl⟩, s', hmap⟩ := hrel
          by_cases hend2 : n' ≤ r
          · have hd2 : decide (r < n') = false := by simp; omega
            have HE : Hid (fsK (eWt E) (fun x => decide (x ∈ a)) b r = fsK (eWt E) (fun x => decide (x ∈ a)) b b.length) := by rw [HLb.out, show r = n' by omega]; rfl
            clear hmap
            go_wp2
            go_ret
            exact ⟨ret_int (by rw [HW.out, HE.out]), GG⟩
          · obtain ⟨bb, off, rfl, hc⟩ := HRb0.out.ints (by omega)
            have hc1 := hc r (by omega)
            obtain ⟨hb0, hb1⟩ := HB.out r (by have := HLb.out; omega)
            have hw : I64 (gi b r) := ⟨by omega, by have := HL.out; omega⟩
            have hm2 : gi b r < m := by have := HL.out; omega
            have HH := hide hmap
            clear hc hmap
            cases hin : (decide (gi b r ∈ a) && !decide (gi b r ∈ b.take r)) with
            | false =>
              have HF : Hid ((if (decide (gi b r ∈ a) && !decide (gi b r ∈ b.take r)) = true then some (gi b r) else none : Option Int) = none) := by rw [hin]; rfl
              have HN : Hid (fsK (eWt E) (fun x => decide (x ∈ a)) b (r + 1) = fsK (eWt E) (fun x => decide (x ∈ a)) b r) := by rw [fsK_step, hin]; exact Int.add_zero _
              have HQ : Hid ((fun z => if decide (z ∈ a) && !decide (z ∈ b.take (r + 1)) then some z else none : Int → Option Int) = (fun z => if decide (z ∈ a) && !decide (z ∈ b.take r) then some z else none)) := by
                funext z
                by_cases hz : z = gi b r
                · rw [hz, hin]
                  have : (decide (gi b r ∈ a) && !decide (gi b r ∈ b.take (r + 1))) = false := by
                    rw [decide_eq_true ((take_mem_succ (by have := HLb.out; omega) _).2 (.inr rfl))]; simp
                  rw [this]
                · have : z ∈ b.take (r + 1) ↔ z ∈ b.take r := by
                    rw [take_mem_succ (by have := HLb.out; omega)]; simp [hz]
                  simp only [this]
              clear hin
              go_wp2_with (at_lookup; refine wp_mapGetOk rfl _ _ rfl M n s' _ rfl HH.out _ rfl hw ?_; rw [HF.out]; simp only [Option.isSome_none, Option.getD_none])
              go_roundw
              case measure => simp [intOf]; omega
              case rel => exact ⟨r + 1, by omega, by go_num, by rw [HN.out], ⟨_, rfl⟩, s', by rw [HQ.out]; exact HH.out⟩
            | true =>
              have HF : Hid ((if (decide (gi b r ∈ a) && !decide (gi b r ∈ b.take r)) = true then some (gi b r) else none : Option Int) = some (gi b r)) := by rw [hin]; rfl
              have HN : Hid (fsK (eWt E) (fun x => decide (x ∈ a)) b (r + 1) = fsK (eWt E) (fun x => decide (x ∈ a)) b r + (ge E (gi b r).toNat).w) := by rw [fsK_step, hin]; rfl
              have HQ : Hid ((fun z => if z = gi b r then none else if decide (z ∈ a) && !decide (z ∈ b.take r) then some z else none : Int → Option Int) = (fun z => if decide (z ∈ a) && !decide (z ∈ b.take (r + 1)) then some z else none)) := by
                funext z
                by_cases hz : z = gi b r
                · rw [if_pos hz, hz]
                  have : (decide (gi b r ∈ a) && !decide (gi b r ∈ b.take (r + 1))) = false := by
                    rw [decide_eq_true ((take_mem_succ (by have := HLb.out; omega) _).2 (.inr rfl))]; simp
                  rw [this]; rfl
                · have : z ∈ b.take (r + 1) ↔ z ∈ b.take r := by
                    rw [take_mem_succ (by have := HLb.out; omega)]; simp [hz]
                  rw [if_neg hz]
                  simp only [this]
              clear hin
              obtain ⟨eb, eoff, rfl, hce⟩ := HR0.out.edges (by omega)
              obtain ⟨_, _, hc3⟩ := hce (gi b r).toNat (by omega)
              clear hce
              go_wp2_with (first
                | (at_lookup; refine wp_mapGetOk rfl _ _ rfl M n s' _ rfl HH.out _ rfl hw ?_; rw [HF.out]; simp only [Option.isSome_some, Option.getD_some])
                | (at_delete; refine wp_mapDel rfl _ _ rfl M n s' _ rfl HH.out _ rfl hw ?_; intro w1 hmap1 hg1))
              obtain ⟨y1, rfl⟩ := (v.grows.row (by simp; omega) hg1).later
              go_roundw
              case measure => simp [intOf]; omega
              case rel => exact ⟨r + 1, by omega, by go_num, by rw [wrap_add_wrap, HN.out], ⟨_, rfl⟩, _, by rw [← HQ.out]; exact hmap1⟩
      · obtain ⟨bb, off, rfl, hc⟩ := HRa0.out.ints (by omega)
        have hc1 := hc q (by omega)
        obtain ⟨ha0, ha1⟩ := HA.out q (by have := HLa.out; omega)
        have hw : I64 (gi a q) := ⟨by omega, by have := HL.out; omega⟩
        have HH := hide hmap
        clear hc hmap
        have HQ : Hid ((fun z => if z = gi a q then some (gi a q) else if z ∈ a.take q then some z else none : Int → Option Int) = (fun z => if z ∈ a.take (q + 1) then some z else none)) := by
          funext z
          have := take_mem_succ (l := a) (k := q) (by have := HLa.out; omega) z
          by_cases hz : z = gi a q
          · rw [if_pos hz, if_pos (this.2 (.inr hz)), hz]
          · rw [if_neg hz]
            have : z ∈ a.take (q + 1) ↔ z ∈ a.take q := by rw [this]; simp [hz]
            simp only [this]
        go_wp2_with (at_mapUpdate; refine wp_mapPut rfl _ _ _ rfl M q s _ rfl HH.out (by unfold maxLen; omega) _ _ rfl rfl hw hw ?_; intro w1 hmap1 hg1)
        have hG1 := (y.grows.row (by simp; omega) hg1).later
        obtain ⟨y1, rfl⟩ := hG1
        go_roundw
        case measure => simp [intOf]; omega
        case rel => exact ⟨q + 1, by omega, by go_num, ⟨_, rfl⟩, _, by rw [← HQ.out]; exact hmap1⟩

set_option maxRecDepth 20000 in
set_option maxHeartbeats 4000000 in
theorem r8Shared (N : Int) (A : Option Addr) (m c : Nat) (E : List Edg) (B : Option Addr) (n d : Nat) (a : List Int) (B' : Option Addr) (n' d' : Nat) (b : List Int) (w : World) (h : Rd w A 3 m (esCells E)) (hm : m ≤ 1000000)
    (ha : Rd w B 1 n (a.map (.int .i64))) (hn : n ≤ 1000000) (hnd : n ≤ d) (hb : Rd w B' 1 n' (b.map (.int .i64))) (hn' : n' ≤ 1000000) :
    Calls Tryz.prog 50 #[.agg #[.int .i64 N, .slice A m c], .slice B n d, .slice B' n' d'] w fun e w' => e = .returned (.int .u64 (sharedV N E a b)) ∧ Grows w w' := by
  have HL := hide h.elen
  have HLa := hide (show a.length = n by simpa using ha.len)
  have HR := hide h
  have HRa := hide ha
  have HRb := hide hb
  have HR0 := hide (h.new (.cells #[.int .i64 N, .slice A m c] 35))
  have HRa0 := hide (ha.new (.cells #[.int .i64 N, .slice A m c] 35))
  clear h ha hb
  have C1 := fun (W : World) (g : Grows w W) => r8edges N A m c E B n d a W (HR.out.grows g) hm (HRa.out.grows g) hn
  have C2 := fun (W : World) (g : Grows w W) => r8edges N A m c E B' n' d' b W (HR.out.grows g) hm (HRb.out.grows g) hn'
  cases h1 : edgesB N E a with
  | false =>
    have HW : Hid (sharedV N E a b = 0) := by unfold sharedV; rw [h1]; rfl
    rw [h1] at C1
    have H1 := hide C1
    clear C1 C2 h1
    go_enter Tryz.func50, Tryz.ntmps50
    go_wp2_with fail
    refine (H1.out _ GG).mono ?_; rintro e w' ⟨rfl, hg⟩; obtain ⟨x1, rfl⟩ := Grows.later hg; clear hg
    go_wp2
    go_ret
    exact ⟨ret_int HW.out.symm, GG⟩
  | true =>
  cases h2 : edgesB N E b with
  | false =>
    have HW : Hid (sharedV N E a b = 0) := by unfold sharedV; rw [h1, h2]; rfl
    rw [h1] at C1
    rw [h2] at C2
    have H1 := hide C1
    have H2 := hide C2
    clear C1 C2 h1 h2
    go_enter Tryz.func50, Tryz.ntmps50
    go_wp2_with fail
    refine (H1.out _ GG).mono ?_; rintro e w' ⟨rfl, hg⟩; obtain ⟨x1, rfl⟩ := Grows.later hg; clear hg
    go_wp2_with fail
    refine (H2.out _ GG).mono ?_; rintro e w' ⟨rfl, hg⟩; obtain ⟨x2, rfl⟩ := Grows.later2 hg; clear hg
    go_wp2
    go_ret
    exact ⟨ret_int HW.out.symm, GG⟩
  | true =>
    have HA := hide (edgesB_spec h1).2
    have HB := hide (edgesB_spec h2).2
    have HW : Hid (sharedV N E a b = IntKind.u64.wrap (fsK (eWt E) (fun x => decide (x ∈ b)) a a.length)) := by unfold sharedV; rw [h1, h2, shared_same HA.out HB.out]; rfl
    rw [h1] at C1
    rw [h2] at C2
    have H1 := hide C1
    have H2 := hide C2
    clear C1 C2 h1 h2
    go_enter Tryz.func50, Tryz.ntmps50
    go_wp2_with fail
    refine (H1.out _ GG).mono ?_; rintro e w' ⟨rfl, hg⟩; obtain ⟨x1, rfl⟩ := Grows.later hg; clear hg
    go_wp2_with fail
    refine (H2.out _ GG).mono ?_; rintro e w' ⟨rfl, hg⟩; obtain ⟨x2, rfl⟩ := Grows.later2 hg; clear hg
    go_wp2
    go_loopw [8, 7] (fun i u wr => ∃ k : Nat, k ≤ n ∧ i = .int .i64 (k : Int) ∧ u = .int .u64 (IntKind.u64.wrap (fsK (eWt E) (fun x => decide (x ∈ b)) a k)) ∧ ∃ y : Later (w.alloc (.cells #[.int .i64 N, .slice A m c] 35)), wr = y.now) (fun i _ _ => n - (intOf i).toNat)
    case atStart => exact ⟨0, by omega, by go_num, by simp [fsK, IntKind.wrap_u64], _, rfl⟩
    case round =>
      obtain ⟨r, hr, rfl, rfl, ⟨v, rfl⟩⟩ := hrel
      by_cases hend2 : n ≤ r
      · have HE : Hid (fsK (eWt E) (fun x => decide (x ∈ b)) a r = fsK (eWt E) (fun x => decide (x ∈ b)) a a.length) := by rw [HLa.out, show r = n by omega]; rfl
        go_wp2
        go_ret
        exact ⟨ret_int (by rw [HW.out, HE.out]), GG⟩
      · obtain ⟨bb, off, rfl, hc⟩ := HRa0.out.ints (by omega)
        have hc1 := hc r (by omega)
        have hcap : r ≤ d := by omega
        obtain ⟨ha0, ha1⟩ := HA.out r (by have := HLa.out; omega)
        have hm2 : gi a r < m := by have := HL.out; omega
        have D1 := fun (W : World) (g : Grows w W) => calls_same (r1Has B' n' d' b (gi a r) W (HRb.out.grows g) hn')
        have D2 := fun (W : World) (g : Grows w W) => calls_same (r1Has (some ⟨bb, off, none⟩) r d (a.take r) (gi a r) W (Rd.take (HRa.out.grows g) (by omega)) (by omega))
        clear hc
        cases hin : decide (gi a r ∈ b) with
        | false =>
          rw [hin] at D1
          have K1 := hide D1
          have HN : Hid (fsK (eWt E) (fun x => decide (x ∈ b)) a (r + 1) = fsK (eWt E) (fun x => decide (x ∈ b)) a r) := by rw [fsK_step, hin]; exact Int.add_zero _
          clear D1 D2 hin
          go_wp2_with fail
          ((first | refine wp_region_gen2 (by kernel_rfl) (by kernel_rfl) ?_ | refine wp_region_gen (by kernel_rfl) (by kernel_rfl) ?_); (repeat' ((first | refine gLex_val0 rfl (by kernel_rfl) (fun K hK => ?_) | refine gLex_undef rfl rfl rfl (by kernel_rfl) (fun K hK => ?_) | (refine gLex_ask rfl rfl rfl ?_; first | (apply gAsk_yes; kernel_rfl; intro K hK) | ((first | apply gAsk_no1 | apply gAsk_no2); kernel_rfl; intro K hK) | (apply gAsk_part; kernel_rfl; all_goals (intro h K hK; (try simp only [Bool.not_true] at h); (try simp only [Bool.not_false] at h); (try simp only [decide_eq_true_eq] at h); (try simp only [decide_eq_false_iff_not] at h); try (exfalso; first | contradiction | omega))))) <;> (go_simp; (try (simp only [↓IntWalk.iteOmega]; try go_simp)); (try simp (disch := omega) only [IntWalk.i64_in]); (try simp (disch := omega) only [IntWalk.u64_in]); first | (refine hK _ ?_; clear hK K) | (apply Exists.intro; refine ⟨fun x => ?_, hK _ ?_⟩; (first | (go_at_call 57; exact K1.out _ GG)); clear hK K)))); all_goals ((apply gLex_end); intro x))
          go_wp2
          go_roundw
          case measure => simp [intOf]; omega
          case rel => exact ⟨r + 1, by omega, by go_num, by rw [HN.out], _, rfl⟩
        | true =>
          rw [hin] at D1
          have K1 := hide D1
          clear D1
          cases htk : decide (gi a r ∈ a.take r) with
          | true =>
            rw [htk] at D2
            have K2 := hide D2
            have HN : Hid (fsK (eWt E) (fun x => decide (x ∈ b)) a (r + 1) = fsK (eWt E) (fun x => decide (x ∈ b)) a r) := by rw [fsK_step, hin, htk]; exact Int.add_zero _
            clear D2 hin htk
            go_wp2_with fail
            ((first | refine wp_region_gen2 (by kernel_rfl) (by kernel_rfl) ?_ | refine wp_region_gen (by kernel_rfl) (by kernel_rfl) ?_); (repeat' ((first | refine gLex_val0 rfl (by kernel_rfl) (fun K hK => ?_) | refine gLex_undef rfl rfl rfl (by kernel_rfl) (fun K hK => ?_) | (refine gLex_ask rfl rfl rfl ?_; first | (apply gAsk_yes; kernel_rfl; intro K hK) | ((first | apply gAsk_no1 | apply gAsk_no2); kernel_rfl; intro K hK) | (apply gAsk_part; kernel_rfl; all_goals (intro h K hK; (try simp only [Bool.not_true] at h); (try simp only [Bool.not_false] at h); (try simp only [decide_eq_true_eq] at h); (try simp only [decide_eq_false_iff_not] at h); try (exfalso; first | contradiction | omega))))) <;> (go_simp; (try (simp only [↓IntWalk.iteOmega]; try go_simp)); (try simp (disch := omega) only [IntWalk.i64_in]); (try simp (disch := omega) only [IntWalk.u64_in]); first | (refine hK _ ?_; clear hK K) | (apply Exists.intro; refine ⟨fun x => ?_, hK _ ?_⟩; (first | (go_at_call_of 57 n'; exact K1.out _ GG) | (go_at_call 57; exact K2.out _ GG)); clear hK K)))); all_goals ((apply gLex_end); intro x))
            go_wp2
            go_roundw
            case measure => simp [intOf]; omega
            case rel => exact ⟨r + 1, by omega, by go_num, by rw [HN.out], _, rfl⟩
          | false =>
            rw [htk] at D2
            have K2 := hide D2
            have HN : Hid (fsK (eWt E) (fun x => decide (x ∈ b)) a (r + 1) = fsK (eWt E) (fun x => decide (x ∈ b)) a r + (ge E (gi a r).toNat).w) := by rw [fsK_step, hin, htk]; rfl
            clear D2 hin htk
            obtain ⟨eb, eoff, rfl, hce⟩ := HR0.out.edges (by omega)
            obtain ⟨_, _, hc3⟩ := hce (gi a r).toNat (by omega)
            clear hce
            go_wp2_with fail
            ((first | refine wp_region_gen2 (by kernel_rfl) (by kernel_rfl) ?_ | refine wp_region_gen (by kernel_rfl) (by kernel_rfl) ?_); (repeat' ((first | refine gLex_val0 rfl (by kernel_rfl) (fun K hK => ?_) | refine gLex_undef rfl rfl rfl (by kernel_rfl) (fun K hK => ?_) | (refine gLex_ask rfl rfl rfl ?_; first | (apply gAsk_yes; kernel_rfl; intro K hK) | ((first | apply gAsk_no1 | apply gAsk_no2); kernel_rfl; intro K hK) | (apply gAsk_part; kernel_rfl; all_goals (intro h K hK; (try simp only [Bool.not_true] at h); (try simp only [Bool.not_false] at h); (try simp only [decide_eq_true_eq] at h); (try simp only [decide_eq_false_iff_not] at h); try (exfalso; first | contradiction | omega))))) <;> (go_simp; (try (simp only [↓IntWalk.iteOmega]; try go_simp)); (try simp (disch := omega) only [IntWalk.i64_in]); (try simp (disch := omega) only [IntWalk.u64_in]); first | (refine hK _ ?_; clear hK K) | (apply Exists.intro; refine ⟨fun x => ?_, hK _ ?_⟩; (first | (go_at_call_of 57 n'; exact K1.out _ GG) | (go_at_call 57; exact K2.out _ GG)); clear hK K)))); all_goals ((apply gLex_end); intro x))
            go_wp2_with fail
            ((first | refine wp_region_gen2 (by kernel_rfl) (by kernel_rfl) ?_ | refine wp_region_gen (by kernel_rfl) (by kernel_rfl) ?_); (repeat' ((first | refine gLex_val0 rfl (by kernel_rfl) (fun K hK => ?_) | refine gLex_undef rfl rfl rfl (by kernel_rfl) (fun K hK => ?_) | (refine gLex_ask rfl rfl rfl ?_; first | (apply gAsk_yes; kernel_rfl; intro K hK) | ((first | apply gAsk_no1 | apply gAsk_no2); kernel_rfl; intro K hK) | (apply gAsk_part; kernel_rfl; all_goals (intro h K hK; (try simp only [Bool.not_true] at h); (try simp only [Bool.not_false] at h); (try simp only [decide_eq_true_eq] at h); (try simp only [decide_eq_false_iff_not] at h); try (exfalso; first | contradiction | omega))))) <;> (go_simp; (try (simp only [↓IntWalk.iteOmega]; try go_simp)); (try simp (disch := omega) only [IntWalk.i64_in]); (try simp (disch := omega) only [IntWalk.u64_in]); refine hK _ ?_; clear hK K))); all_goals ((apply gLex_end); intro x))
            go_wp2
            go_roundw
            case measure => simp [intOf]; omega
            case rel => exact ⟨r + 1, by omega, by go_num, by rw [wrap_add_wrap, HN.out], _, rfl⟩

end Go.Proofs.YtgplpgldhoelcaaGreat

namespace Go.Proofs.YtgplpgldhoelcaaGreat
open Go Go.RowKit Go.Maps

def cntF (l : List Int) (z : Int) : Option Int := if z ∈ l then some ((l.count z : Nat) : Int) else none
theorem cntF_snoc {l : List Int} {k : Nat} (hk : k < l.length) (z : Int) : (if z = gi l k then some ((cntF (l.take k) (gi l k)).getD 0 + 1) else cntF (l.take k) z) = cntF (l.take (k + 1)) z := by
  have e : l.take (k + 1) = l.take k ++ [gi l k] := by rw [List.take_succ_eq_append_getElem hk]; simp [gi, hk]
  unfold cntF
  rw [e]
  by_cases hz : z = gi l k
  · subst hz
    have hin : gi l k ∈ l.take k ++ [gi l k] := by simp
    by_cases hm : gi l k ∈ l.take k
    · simp [hm]
    · simp [hm, List.count_eq_zero_of_not_mem hm]
  · rw [if_neg hz]
    have h1 : z ∈ l.take k ++ [gi l k] ↔ z ∈ l.take k := by simp [hz]
    have h2 : List.count z [gi l k] = 0 := List.count_eq_zero_of_not_mem (by simp [hz])
    simp only [h1, List.count_append, h2, Nat.add_zero]
theorem cntF_zero (l : List Int) (z : Int) : ((cntF l z).getD 0 == 0) = !decide (z ∈ l) := by
  unfold cntF
  by_cases h : z ∈ l
  · have : 0 < l.count z := List.count_pos_iff.2 h
    rw [if_pos h, decide_eq_true h]
    simp
    omega
  · rw [if_neg h, decide_eq_false h]; rfl
theorem cntF_le (l : List Int) (z : Int) : 0 ≤ (cntF l z).getD 0 ∧ (cntF l z).getD 0 ≤ l.length := by
  unfold cntF
  have := List.count_le_length (l := l) (a := z)
  by_cases h : z ∈ l
  · rw [if_pos h]; simp; exact this
  · rw [if_neg h]; simp

def SetPost (w : World) (n : Nat) (l : List Int) (e : Ending) (w' : World) : Prop := ∃ b s, e = .returned (.map (some b)) ∧ w.heap.size ≤ b ∧ MapII w' b n s (cntF l) ∧ Grows w w'

set_option maxHeartbeats 1000000 in
theorem shSet (A : Option Addr) (n c : Nat) (l : List Int) (w : World) (h : Rd w A 1 n (l.map (.int .i64))) (hn : n ≤ 1000000) (hw : ∀ j, j < n → I64 (gi l j)) :
    Calls Tryz.prog 163 #[.slice A n c] w (SetPost w n l) := by
  have HL := hide (show l.length = n by simpa using h.len)
  have HR := hide h
  have HI := hide hw
  clear h hw
  have hmm := @run_makeMap Tryz.prog
  go_enter Tryz.func163, Tryz.ntmps163
  go_wp2
  have HM := hide (MapII.made w)
  have HG := hide ((Grows.refl w).new (.map #[] 0)).later
  go_loopw [9] (fun i wr => ∃ k : Nat, k ≤ n ∧ i = .int .i64 (k : Int) ∧ (∃ y : Later w, wr = y.now) ∧ ∃ s, MapII wr w.heap.size k s (cntF (l.take k))) (fun i _ => n - (intOf i).toNat)
  case atStart => exact ⟨0, by omega, by go_num, HG.out, 0, by rw [show cntF (l.take 0) = fun _ => none from rfl]; exact HM.out⟩
  case round =>
    obtain ⟨q, hq, rfl, ⟨y, rfl⟩, s, hmap⟩ := hrel
    by_cases hend : n ≤ q
    · have HF : Hid (MapII y.now w.heap.size n s (cntF l)) := by
        have hq' : q = n := by omega
        have e : l.take n = l := by rw [← HL.out]; exact List.take_length
        rw [hq', e] at hmap
        exact hmap
      clear hmap HM HG
      go_wp2
      go_ret
      exact ⟨_, s, rfl, Nat.le_refl _, HF.out, GG⟩
    · obtain ⟨bb, off, rfl, hc⟩ := HR.out.ints (by omega)
      have hc1 := hc q (by omega)
      have hwq := HI.out q (by omega)
      have HH := hide hmap
      have hcl := cntF_le (l.take q) (gi l q)
      have hlen : (l.take q).length ≤ q := List.length_take_le _ _
      obtain ⟨hc0, hc2⟩ := hcl
      have hw2 : I64 ((cntF (l.take q) (gi l q)).getD 0 + 1) := ⟨by omega, by omega⟩
      have hlt : (cntF (l.take q) (gi l q)).getD 0 ≤ 1000000 := by omega
      have HQ := hide (cntF_snoc (l := l) (k := q) (by have := HL.out; omega))
      clear hc hmap hc2 hlen
      go_wp2_with (first
        | (at_lookup; refine wp_mapGet rfl _ _ rfl w.heap.size q s _ rfl HH.out _ rfl hwq ?_)
        | (at_mapUpdate; refine wp_mapPut rfl _ _ _ rfl w.heap.size q s _ rfl HH.out (by unfold maxLen; omega) _ _ rfl rfl hwq hw2 ?_; intro w1 hmap1 hg1))
      have hG1 := (y.grows.row (by omega) hg1).later
      obtain ⟨y1, rfl⟩ := hG1
      go_roundw
      case measure => simp [intOf]; omega
      case rel => exact ⟨q + 1, by omega, by go_num, ⟨_, rfl⟩, _, by rw [← funext HQ.out]; exact hmap1⟩

end Go.Proofs.YtgplpgldhoelcaaGreat

namespace Go.Proofs.YtgplpgldhoelcaaGreat
open Go Go.RowKit
attribute [local go_sem] Oper.semAt_some
theorem MapII.lenRun {w : World} {b n s : Nat} {f : Int → Option Int} (h : MapII w b n s f) (ty : TypeId) : (Builtin.len_ #[204] ty #[.map (some b)]).run Tryz.prog w = .ok (.int .i64 (s : Int)) w := by
  obtain ⟨D, h1, h2, _⟩ := h
  rw [h1.len Tryz.underlying204 ty, h2]
set_option maxRecDepth 20000 in
set_option maxHeartbeats 2000000 in
theorem pIs (N : Int) (A : Option Addr) (m c : Nat) (E : List Edg) (s t : Int) (B : Option Addr) (n d : Nat) (l : List Int) (w : World) (h : Rd w A 3 m (esCells E)) (hm : m ≤ 1000000) (h' : Rd w B 1 n (l.map (.int .i64))) (hn : n ≤ 100000) :
    Calls Tryz.prog 96 #[.agg #[.int .i64 N, .slice A m c], .int .i64 s, .int .i64 t, .slice B n d] w fun e w' => e = .returned (.bool (isB N E s l && decide (gi (nodesL N E s l) l.length = t))) ∧ Grows w w' := by
  have C := hide (fun (W : World) (g : Grows w W) => pNodes N A m c E s B n d l W (h.grows g) hm (h'.grows g) (by omega))
  have hl : l.length = n := by simpa using h'.len
  clear h h'
  subst hl
  cases hq : isB N E s l with
  | false =>
    rw [hq] at C
    rw [Bool.false_and]
    clear hq
    go_enter Tryz.func96, Tryz.ntmps96
    go_wp2_with (go_at_call 145; refine (C.out _ GG).mono ?_; rintro e w' ⟨A7, c7, rfl, _, hg⟩; obtain ⟨x1, rfl⟩ := hg.later; clear hg)
    go_ret
    exact ⟨rfl, GG⟩
  | true =>
    have hk : (nodesL N E s l).length = l.length + 1 := by unfold nodesL; rw [if_pos hq, ndL_len]
    rw [hq] at C
    unfold GiveIB at C
    rw [hk] at C
    rw [Bool.true_and]
    clear hq
    generalize nodesL N E s l = L at *
    generalize l.length = k at *
    by_cases ht : gi L k = t
    · have hb : (gi L k == t) = true := by simpa using ht
      rw [decide_eq_true ht]
      clear ht
      go_enter Tryz.func96, Tryz.ntmps96
      go_wp2_with fail
      refine (C.out _ GG).mono ?_; rintro e w' ⟨A7, c7, rfl, hr, hg⟩
      obtain ⟨b, off, rfl, hc⟩ := hr.ints (by omega)
      have k1 : Holds w' ⟨b, off + k, none⟩ (.int .i64 (gi L k)) := ⟨hc k (by omega)⟩
      obtain ⟨x1, rfl⟩ := hg.later
      clear hg hr hc
      try simp only
      go_wp2_with fail
      go_ret
      exact ⟨rfl, GG⟩
    · have hb : (gi L k == t) = false := beq_eq_false_iff_ne.2 ht
      rw [decide_eq_false ht]
      clear ht
      go_enter Tryz.func96, Tryz.ntmps96
      go_wp2_with fail
      refine (C.out _ GG).mono ?_; rintro e w' ⟨A7, c7, rfl, hr, hg⟩
      obtain ⟨b, off, rfl, hc⟩ := hr.ints (by omega)
      have k1 : Holds w' ⟨b, off + k, none⟩ (.int .i64 (gi L k)) := ⟨hc k (by omega)⟩
      obtain ⟨x1, rfl⟩ := hg.later
      clear hg hr hc
      try simp only
      go_wp2_with fail
      go_ret
      exact ⟨rfl, GG⟩
def dcn (L : List Int) : Nat → Nat
  | 0 => 0
  | k + 1 => if (cntF (L.take k) (gi L k)).isSome then dcn L k else dcn L k + 1
theorem dcn_le (L : List Int) : ∀ k, dcn L k ≤ k
  | 0 => Nat.le_refl _
  | k + 1 => by have := dcn_le L k; unfold dcn; split <;> omega
theorem dcn_is (L : List Int) : ∀ k, dcn L k = k ↔ oneB L k = true
  | 0 => by simp [dcn, oneB]
  | k + 1 => by
    have ih := dcn_is L k
    have hle := dcn_le L k
    have e : (cntF (L.take k) (gi L k)).isSome = decide (gi L k ∈ L.take k) := by
      unfold cntF
      by_cases hm : gi L k ∈ L.take k
      · rw [if_pos hm, decide_eq_true hm]; rfl
      · rw [if_neg hm, decide_eq_false hm]; rfl
    unfold dcn
    unfold oneB at ih ⊢
    rw [decide_eq_true_eq] at ih ⊢
    by_cases hm : gi L k ∈ L.take k
    · rw [if_pos (by rw [e]; exact decide_eq_true hm)]
      exact ⟨fun h => by omega, fun h => absurd hm (h k (by omega))⟩
    · rw [if_neg (by rw [e, decide_eq_false hm]; simp)]
      constructor
      · intro h j hj
        rcases Nat.lt_or_ge j k with h1 | h1
        · exact ih.1 (by omega) j h1
        · obtain rfl : j = k := by omega
          exact hm
      · intro h
        have := ih.2 (fun j hj => h j (by omega))
        omega
theorem nodes_i64 {N : Int} {E : List Edg} {s : Int} {l : List Int} (h : isB N E s l = true) : ∀ j, j < (nodesL N E s l).length → I64 (gi (nodesL N E s l) j) := by
  intro j hj
  unfold nodesL at hj ⊢
  rw [if_pos h] at hj ⊢
  rw [ndL_len] at hj
  rw [ndL_at _ _ _ _ _ hj]
  unfold isB at h
  simp only [Bool.and_eq_true] at h
  obtain ⟨h1, h2, _⟩ := h
  have hr : rightF N E = 0 := by unfold edgesB at h1; simp only [Bool.and_eq_true, decide_eq_true_eq] at h1; exact h1.1
  have hs := of_decide_eq_true (show decide (0 ≤ s ∧ s < N) = true from h2)
  have hN : 1 ≤ N ∧ N ≤ 4096 := by
    unfold rightF at hr
    split at hr
    · omega
    · omega
  match j, hj with
  | 0, _ => exact ⟨by show (-9223372036854775808 : Int) ≤ s; omega, by show s < 9223372036854775808; omega⟩
  | k + 1, hj =>
    obtain ⟨e1, e2⟩ := edges_in h1 (k := k) (by omega)
    have hE := (right_in hr).2.2.2.1.t _ e2
    show I64 (ge E (gi l k).toNat).t
    rw [hE.2]
    exact ⟨by omega, by omega⟩
set_option maxRecDepth 20000 in
set_option maxHeartbeats 4000000 in
theorem pSimple (N : Int) (A : Option Addr) (m c : Nat) (E : List Edg) (s : Int) (B : Option Addr) (n d : Nat) (l : List Int) (w : World) (h : Rd w A 3 m (esCells E)) (hm : m ≤ 1000000) (h' : Rd w B 1 n (l.map (.int .i64))) (hn : n ≤ 100000) :
    Calls Tryz.prog 101 #[.agg #[.int .i64 N, .slice A m c], .int .i64 s, .slice B n d] w fun e w' => e = .returned (.bool (simB N E s l)) ∧ Grows w w' := by
  have C := hide (fun (W : World) (g : Grows w W) => pNodes N A m c E s B n d l W (h.grows g) hm (h'.grows g) (by omega))
  have hl : l.length = n := by simpa using h'.len
  have hlen : (nodesL N E s l).length ≤ 100001 := by
    unfold nodesL
    split
    · rw [ndL_len]; omega
    · simp
  unfold GiveIB at C
  have HI := hide (show isB N E s l = true → ∀ j, j < (nodesL N E s l).length → I64 (gi (nodesL N E s l) j) from nodes_i64)
  have HV := hide (show simB N E s l = (isB N E s l && oneB (nodesL N E s l) (nodesL N E s l).length) from rfl)
  have HZ := hide (show isB N E s l = false → (nodesL N E s l).length = 0 from fun h0 => by unfold nodesL; rw [if_neg (by rw [h0]; simp)]; rfl)
  clear h h' hl
  rw [HV.out]
  generalize nodesL N E s l = L at *
  generalize isB N E s l = ib at *
  obtain ⟨k, hk⟩ : ∃ k, k = L.length := ⟨_, rfl⟩
  rw [← hk] at C hlen HI HV HZ ⊢
  have HK := hide hk
  clear hk HV
  have hmm := @run_makeMap Tryz.prog
  go_enter Tryz.func101, Tryz.ntmps101
  go_upto_region 2 with (go_at_call 145; refine (C.out _ GG).mono ?_; rintro e w' ⟨A7, c7, rfl, hr, hg⟩; obtain ⟨x1, rfl⟩ := hg.later; have HR := hide hr; clear hg hr)
  go_wp2_with fail
  have HM := hide (MapII.made x1.now)
  have HG := hide ((Grows.refl x1.now).new (.map #[] 0)).later
  go_loopw [22] (fun i wr => ∃ q : Nat, q ≤ k ∧ i = .int .i64 (q : Int) ∧ (∃ y : Later x1.now, wr = y.now) ∧ MapII wr x1.now.heap.size q (dcn L q) (cntF (L.take q))) (fun i _ => k - (Go.RowKit.intOf i).toNat)
  case atStart => exact ⟨0, by omega, by go_num, HG.out, by rw [show cntF (L.take 0) = fun _ => none from rfl]; exact HM.out⟩
  case round =>
    obtain ⟨q, hq, rfl, ⟨y, rfl⟩, hmap⟩ := hrel
    by_cases hend : k ≤ q
    · obtain rfl : k = q := by omega
      have HF := hide hmap
      clear hmap HM HG
      have HD := hide (dcn_is L k)
      cases ib with
      | false =>
        go_wp2_with fail
        go_ret
        exact ⟨rfl, GG⟩
      | true =>
        generalize dcn L k = dk at *
        by_cases hdk : dk = k
        · have HB := hide ((HD.out).1 hdk)
          have hdb : ((dk : Int) == (k : Int)) = true := by rw [hdk]; simp
          clear hdk
          have hlr := fun ty => HF.out.lenRun ty
          go_wp2_with fail
          go_ret
          exact ⟨by rw [HB.out]; rfl, GG⟩
        · have HB := hide (show oneB L k = false from by
            cases ho : oneB L k with
            | false => rfl
            | true => exact absurd ((HD.out).2 ho) hdk)
          have hdb : ((dk : Int) == (k : Int)) = false := beq_eq_false_iff_ne.2 (by omega)
          clear hdk
          have hlr := fun ty => HF.out.lenRun ty
          go_wp2_with fail
          go_ret
          exact ⟨by rw [HB.out]; rfl, GG⟩
    · have hib : ib = true := by
        cases hb : ib with
        | true => rfl
        | false => have := HZ.out hb; omega
      obtain ⟨bb, off, rfl, hc⟩ := HR.out.ints (by omega)
      have hc1 := hc q (by omega)
      have hwq := HI.out hib q (by omega)
      have HH := hide hmap
      have hcl := cntF_le (L.take q) (gi L q)
      have hlen2 : (L.take q).length ≤ q := List.length_take_le _ _
      obtain ⟨hc0, hc2⟩ := hcl
      have hw2 : I64 ((cntF (L.take q) (gi L q)).getD 0 + 1) := ⟨by omega, by omega⟩
      have hlt : (cntF (L.take q) (gi L q)).getD 0 ≤ 1000000 := by omega
      have HQ := hide (cntF_snoc (l := L) (k := q) (by have := HK.out; omega))
      clear hc hmap hc2 hlen2 hib
      go_wp2_with (first
        | (at_lookup; refine wp_mapGet rfl _ _ rfl x1.now.heap.size q (dcn L q) _ rfl HH.out _ rfl hwq ?_)
        | (at_mapUpdate; refine wp_mapPut rfl _ _ _ rfl x1.now.heap.size q (dcn L q) _ rfl HH.out (by unfold maxLen; omega) _ _ rfl rfl hwq hw2 ?_; intro w1 hmap1 hg1))
      have hG1 := (y.grows.row (by omega) hg1).later
      obtain ⟨y1, rfl⟩ := hG1
      go_roundw
      case measure => simp [Go.RowKit.intOf]; omega
      case rel => exact ⟨q + 1, by omega, by go_num, ⟨_, rfl⟩, by rw [← funext HQ.out]; exact hmap1⟩
end Go.Proofs.YtgplpgldhoelcaaGreat

namespace Go.Proofs.YtgplpgldhoelcaaGreat
open Go Go.RowKit Go.Maps
def withK (N : Int) (E : List Edg) (l : List Int) (R : List Row) : Nat → Int
  | 0 => 0
  | k + 1 => max (withK N E l R k) (sharedV N E l (gr R k).xs)
theorem withK_succ (N : Int) (E : List Edg) (l : List Int) (R : List Row) (k : Nat) : withK N E l R (k + 1) = max (withK N E l R k) (sharedV N E l (gr R k).xs) := rfl
theorem sharedV_u64 (N : Int) (E : List Edg) (a b : List Int) : U64 (sharedV N E a b) := by
  unfold sharedV
  split
  · unfold U64; rw [IntKind.wrap_u64]; omega
  · unfold U64; omega
theorem withK_u64 (N : Int) (E : List Edg) (l : List Int) (R : List Row) (k : Nat) : U64 (withK N E l R k) := by
  induction k with
  | zero => unfold withK U64; omega
  | succ k ih =>
    rw [withK_succ]
    have := sharedV_u64 N E l (gr R k).xs
    unfold U64 at *
    omega

set_option maxRecDepth 20000 in
set_option maxHeartbeats 2000000 in
theorem shWith (N : Int) (A : Option Addr) (m c : Nat) (E : List Edg) (B : Option Addr) (n d : Nat) (a : List Int) (B' : Option Addr) (n' d' : Nat) (R : List Row) (w : World) (h : Rd w A 3 m (esCells E)) (hm : m ≤ 1000000)
    (ha : Rd w B 1 n (a.map (.int .i64))) (hn : n ≤ 1000000) (hr : Rd w B' 1 n' (R.map rowVal)) (hn' : n' ≤ 1000000) (hR : rowsOk w R) (hs : ∀ k, k < n' → (gr R k).n ≤ 1000000) :
    Calls Tryz.prog 159 #[.agg #[.int .i64 N, .slice A m c], .slice B n d, .slice B' n' d'] w fun e w' => e = .returned (.int .u64 (withK N E a R n')) ∧ Grows w w' := by
  have HL := hide (show R.length = n' by simpa using hr.len)
  have HR := hide h
  have HA := hide ha
  have HM := hide (hr.new (.cells #[.int .i64 N, .slice A m c] 35))
  have HO := hide hR
  have HS := hide hs
  clear h ha hr hR hs
  go_enter Tryz.func159, Tryz.ntmps159
  go_wp2
  go_loopw [11, 6] (fun i u wr => ∃ k : Nat, k ≤ n' ∧ i = .int .i64 (k : Int) ∧ u = .int .u64 (withK N E a R k) ∧ ∃ y : Later (w.alloc (.cells #[.int .i64 N, .slice A m c] 35)), wr = y.now) (fun i _ _ => n' - (intOf i).toNat)
  case atStart => exact ⟨0, by omega, by go_num, rfl, ⟨_, Grows.refl _⟩, rfl⟩
  case round =>
    obtain ⟨k, hk, rfl, rfl, ⟨y, rfl⟩⟩ := hrel
    by_cases hend : n' ≤ k
    · have HE : Hid (withK N E a R k = withK N E a R n') := by rw [show k = n' by omega]; rfl
      go_wp2
      go_ret
      exact ⟨ret_int HE.out, GG⟩
    · obtain ⟨b, off, rfl, hc⟩ := HM.out.rows (by omega)
      have hc1 := hc k (by omega)
      have HN := hide (withK_succ N E a R k)
      clear hc
      go_wp2_with (first | (go_at_call 205; refine (pShared N A m c E B n d a (gr R k).A (gr R k).n (gr R k).c (gr R k).xs _ (HR.out.grows GG) hm (HA.out.grows GG) hn ((HO.out k (by have := HL.out; omega)).1.grows GG) (HS.out k (by omega))).mono ?_; rintro e w' ⟨rfl, hg⟩; (first | obtain ⟨x, rfl⟩ := Grows.later2 hg | obtain ⟨x, rfl⟩ := Grows.later hg); clear hg))
      go_roundw
      case measure => simp [intOf]; omega
      case rel => exact ⟨k + 1, by omega, by go_num, congrArg (Value.int .u64) (by first | (rw [HN.out]; split <;> omega) | rw [HN.out]), _, rfl⟩

end Go.Proofs.YtgplpgldhoelcaaGreat

