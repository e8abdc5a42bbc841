/- The law PartsCounts: for every input it returns true, and each argument reads as before. No condition. -/
import Derived.Test.YtiljgkaffgclgaaQPartsCounts00
import Derived.Test.YtiljgkaffgclgaaQPartsReach14
import Derived.Test.YtiljgkaffgclgaaQPartsReach01
import Derived.Maps.RangeWalk
import Derived.Lib.SlKeysI
import Derived.Test.YtiljgkaffgclgaaQPartsReach15
/- Contracts: the document's answer on how many unlike numbers there are, and which is there most often. -/
namespace Go.Proofs.Ytiljgkaffgclgaa
open Go Go.RowKit
attribute [local go_sem] Oper.semAt_some
theorem count_take1 {l : List Int} {k : Nat} (hk : k < l.length) (x : Int) : (l.take (k + 1)).count x = (l.take k).count x + if gi l k = x then 1 else 0 := by
  have e : gi l k = l[k] := by simp [gi, hk]
  rw [List.take_succ_eq_append_getElem hk, List.count_append, e]
  by_cases h : l[k] = x
  · rw [if_pos h, h]; simp
  · have h0 : [l[k]].count x = 0 := List.count_eq_zero_of_not_mem (by simpa using Ne.symm h)
    rw [if_neg h, h0]
theorem Rd.takeI {w : World} {A : Option Addr} {n : Nat} {l : List Int} (h : Rd w A 1 n (l.map (.int .i64))) {k : Nat} (hk : k ≤ n) : Rd w A 1 k ((l.take k).map (.int .i64)) := by
  have hl : l.length = n := by simpa using h.len
  refine ⟨by simp; omega, fun h1 h2 => ?_⟩
  obtain ⟨g, off, e, hc⟩ := h.at_ (by omega)
  refine ⟨g, off, e, fun j u hu => hc j u ?_⟩
  rw [List.map_take] at hu
  have hj : j < k := by
    rcases Nat.lt_or_ge j k with h | h
    · exact h
    · rw [List.getElem?_eq_none (by simp; omega)] at hu; cases hu
  rwa [List.getElem?_take, if_pos hj] at hu
set_option maxRecDepth 20000 in
set_option maxHeartbeats 2000000 in
theorem r1CountI (A : Option Addr) (c : Nat) (l : List Int) (v : Int) (w : World) (h : Rd w A 1 l.length (l.map (.int .i64))) (hl : l.length ≤ 1000000) :
    Calls Try.prog 108 #[.slice A l.length c, .int .i64 v] w fun e w' => e = .returned (.int .i64 ((l.count v : Nat) : Int)) ∧ Grows w w' := by
  have HR := hide h
  clear h
  go_enter Try.func108, Try.ntmps108
  go_wp2_with fail
  go_loopw [5, 6] (fun s5 s6 wr => ∃ k : Nat, k ≤ l.length ∧ s5 = .int .i64 (((l.take k).count v : Nat) : Int) ∧ s6 = .int .i64 (k : Int) ∧ wr = w) (fun _ i _ => l.length - (Go.RowKit.intOf i).toNat)
  case atStart => exact ⟨0, by omega, by simp, by go_num, rfl⟩
  case round =>
    obtain ⟨k, hk, rfl, rfl, rfl⟩ := hrel
    by_cases hlt : k < l.length
    · obtain ⟨g, off, rfl, hc⟩ := HR.out.intsH (by omega)
      have c1 := hc k hlt
      have hle : (l.take k).count v ≤ 1000000 := by have h1 := List.count_le_length (a := v) (l := l.take k); rw [List.length_take] at h1; omega
      have hst := count_take1 hlt v
      clear hc
      by_cases hv : gi l k = v
      · rw [if_pos hv] at hst
        rw [hv] at c1
        have HST := hide hst
        clear hst hv
        generalize (l.take k).count v = q at *
        go_wp2_with fail
        go_roundw
        case measure => simp [Go.RowKit.intOf]; omega
        case rel => exact ⟨k + 1, by omega, by rw [HST.out]; go_num, by go_num, by first | rfl | trivial⟩
      · rw [if_neg hv] at hst
        have HST := hide hst
        have hb : (gi l k == v) = false := beq_eq_false_iff_ne.2 hv
        clear hst hv
        generalize gi l k = gk at *
        generalize (l.take k).count v = q at *
        go_wp2_with fail
        go_roundw
        case measure => simp [Go.RowKit.intOf]; omega
        case rel => exact ⟨k + 1, by omega, by rw [HST.out]; rfl, by go_num, by first | rfl | trivial⟩
    · obtain rfl : k = l.length := by omega
      rw [List.take_length]
      go_wp2_with fail
      go_ret
      exact ⟨rfl, Grows.refl _⟩
set_option maxRecDepth 20000 in
set_option maxHeartbeats 2000000 in
theorem r17Count (A : Option Addr) (c : Nat) (l : List Int) (w : World) (h : Rd w A 1 l.length (l.map (.int .i64))) (hl : l.length ≤ 1000000) (hc : l.length ≤ c) :
    Calls Try.prog 60 #[.slice A l.length c] w fun e w' => e = .returned (.int .i64 (((fsts l l.length).length : Nat) : Int)) ∧ Grows w w' := by
  have HR := hide h
  have CH := hide (fun (k : Nat) (hk : k ≤ l.length) (v : Int) (W : World) (hg : Grows w W) => r1Has A k c (l.take k) v W ((h.grows hg).takeI hk) (by omega))
  clear h
  go_enter Try.func60, Try.ntmps60
  go_wp2_with fail
  go_loopw [3, 4] (fun s3 s4 wr => ∃ k : Nat, k ≤ l.length ∧ s3 = .int .i64 (((fsts l k).length : Nat) : Int) ∧ s4 = .int .i64 (k : Int) ∧ ∃ y : Later w, wr = y.now) (fun _ i _ => l.length - (Go.RowKit.intOf i).toNat)
  case atStart => exact ⟨0, by omega, by simp [fsts], by go_num, ⟨w, Grows.refl _⟩, rfl⟩
  case round =>
    obtain ⟨k, hk, rfl, rfl, y, rfl⟩ := hrel
    by_cases hlt : k < l.length
    · obtain ⟨g, off, rfl, hc1⟩ := HR.out.intsH (by omega)
      have c1 := hc1 k hlt
      have CK := hide (fun (W : World) (hg : Grows w W) => CH.out k hk (gi l k) W hg)
      have hle : (fsts l k).length ≤ 1000000 := by
        have h1 := len_le_of_sub (fsts l k) (l.take k) (fsts_is l k hk).1 (fun x hx => ((fsts_is l k hk).2 x).1 hx)
        rw [List.length_take] at h1
        omega
      have hst : (fsts l (k + 1)).length = (fsts l k).length + if gi l k ∈ l.take k then 0 else 1 := by
        show (if gi l k ∈ l.take k then fsts l k else fsts l k ++ [gi l k]).length = _
        split <;> simp
      clear hc1 CH
      by_cases hv : gi l k ∈ l.take k
      · rw [if_pos hv] at hst
        rw [decide_eq_true hv] at CK
        have HST := hide hst
        clear hst hv
        generalize gi l k = gk at *
        generalize (fsts l k).length = q at *
        go_upto_region 5 with fail
        ((first | refine wp_region_gen (by kernel_rfl) (by kernel_rfl) ?_); (repeat' (first | (refine gLex_val0 rfl (by kernel_rfl) (fun K hK => ?_); (go_simp; (try (simp only [↓IntWalk.iteOmega]; try go_simp)); (try simp (disch := omega) only [IntWalk.i64_in]); (try simp (disch := omega) only [IntWalk.u64_in]); first | (refine hK _ ?_; clear hK K) | (apply Exists.intro; refine ⟨fun x => ?_, hK _ ?_⟩; (first | (go_at_call 75; with_reducible exact calls_same (CK.out _ (y.grows.trans (by repeat (first | exact Grows.refl _ | refine Grows.now ?_ _ | refine Grows.new ?_ _ | refine Grows.drewN ?_ _ | refine Grows.drew ?_ | assumption | (refine Grows.set ?_ (by first | omega | (simp; done) | (simp; omega)) _))))))); clear hK K))) | (refine gLex_undef rfl rfl rfl (by kernel_rfl) (fun K hK => ?_); go_simp; refine hK _ ?_; clear hK K) | (refine gLex_ask rfl rfl rfl ?_; first | (apply gAsk_yes; kernel_rfl; intro K hK; (go_simp; (try (simp only [↓IntWalk.iteOmega]; try go_simp)); (try simp (disch := omega) only [IntWalk.i64_in]); (try simp (disch := omega) only [IntWalk.u64_in]); first | (refine hK _ ?_; clear hK K) | (apply Exists.intro; refine ⟨fun x => ?_, hK _ ?_⟩; (first | (go_at_call 75; with_reducible exact calls_same (CK.out _ (y.grows.trans (by repeat (first | exact Grows.refl _ | refine Grows.now ?_ _ | refine Grows.new ?_ _ | refine Grows.drewN ?_ _ | refine Grows.drew ?_ | assumption | (refine Grows.set ?_ (by first | omega | (simp; done) | (simp; omega)) _))))))); clear hK K))) | ((first | apply gAsk_no1 | apply gAsk_no2); kernel_rfl; intro K hK; simp [go_sem]; refine hK _ ?_; clear hK K) | (apply gAsk_part; kernel_rfl; all_goals (intro h K hK; (try simp only [Bool.not_true] at h); (try simp only [Bool.not_false] at h); (try simp only [decide_eq_true_eq] at h); (try simp only [decide_eq_false_iff_not] at h); first | (exfalso; first | contradiction | omega) | (go_simp; (try (simp only [↓IntWalk.iteOmega]; try go_simp)); (try simp (disch := omega) only [IntWalk.i64_in]); (try simp (disch := omega) only [IntWalk.u64_in]); first | (refine hK _ ?_; clear hK K) | (apply Exists.intro; refine ⟨fun x => ?_, hK _ ?_⟩; (first | (go_at_call 75; with_reducible exact calls_same (CK.out _ (y.grows.trans (by repeat (first | exact Grows.refl _ | refine Grows.now ?_ _ | refine Grows.new ?_ _ | refine Grows.drewN ?_ _ | refine Grows.drew ?_ | assumption | (refine Grows.set ?_ (by first | omega | (simp; done) | (simp; omega)) _))))))); clear hK K))))))); all_goals ((apply gLex_end); intro y7))
        go_wp2_with fail
        go_roundw
        case measure => simp [Go.RowKit.intOf]; omega
        case rel => exact ⟨k + 1, by omega, by rw [HST.out]; rfl, by go_num, ⟨_, y.grows.trans y7.grows⟩, rfl⟩
      · rw [if_neg hv] at hst
        rw [decide_eq_false hv] at CK
        have HST := hide hst
        clear hst hv
        generalize gi l k = gk at *
        generalize (fsts l k).length = q at *
        go_upto_region 5 with fail
        ((first | refine wp_region_gen (by kernel_rfl) (by kernel_rfl) ?_); (repeat' (first | (refine gLex_val0 rfl (by kernel_rfl) (fun K hK => ?_); (go_simp; (try (simp only [↓IntWalk.iteOmega]; try go_simp)); (try simp (disch := omega) only [IntWalk.i64_in]); (try simp (disch := omega) only [IntWalk.u64_in]); first | (refine hK _ ?_; clear hK K) | (apply Exists.intro; refine ⟨fun x => ?_, hK _ ?_⟩; (first | (go_at_call 75; with_reducible exact calls_same (CK.out _ (y.grows.trans (by repeat (first | exact Grows.refl _ | refine Grows.now ?_ _ | refine Grows.new ?_ _ | refine Grows.drewN ?_ _ | refine Grows.drew ?_ | assumption | (refine Grows.set ?_ (by first | omega | (simp; done) | (simp; omega)) _))))))); clear hK K))) | (refine gLex_undef rfl rfl rfl (by kernel_rfl) (fun K hK => ?_); go_simp; refine hK _ ?_; clear hK K) | (refine gLex_ask rfl rfl rfl ?_; first | (apply gAsk_yes; kernel_rfl; intro K hK; (go_simp; (try (simp only [↓IntWalk.iteOmega]; try go_simp)); (try simp (disch := omega) only [IntWalk.i64_in]); (try simp (disch := omega) only [IntWalk.u64_in]); first | (refine hK _ ?_; clear hK K) | (apply Exists.intro; refine ⟨fun x => ?_, hK _ ?_⟩; (first | (go_at_call 75; with_reducible exact calls_same (CK.out _ (y.grows.trans (by repeat (first | exact Grows.refl _ | refine Grows.now ?_ _ | refine Grows.new ?_ _ | refine Grows.drewN ?_ _ | refine Grows.drew ?_ | assumption | (refine Grows.set ?_ (by first | omega | (simp; done) | (simp; omega)) _))))))); clear hK K))) | ((first | apply gAsk_no1 | apply gAsk_no2); kernel_rfl; intro K hK; simp [go_sem]; refine hK _ ?_; clear hK K) | (apply gAsk_part; kernel_rfl; all_goals (intro h K hK; (try simp only [Bool.not_true] at h); (try simp only [Bool.not_false] at h); (try simp only [decide_eq_true_eq] at h); (try simp only [decide_eq_false_iff_not] at h); first | (exfalso; first | contradiction | omega) | (go_simp; (try (simp only [↓IntWalk.iteOmega]; try go_simp)); (try simp (disch := omega) only [IntWalk.i64_in]); (try simp (disch := omega) only [IntWalk.u64_in]); first | (refine hK _ ?_; clear hK K) | (apply Exists.intro; refine ⟨fun x => ?_, hK _ ?_⟩; (first | (go_at_call 75; with_reducible exact calls_same (CK.out _ (y.grows.trans (by repeat (first | exact Grows.refl _ | refine Grows.now ?_ _ | refine Grows.new ?_ _ | refine Grows.drewN ?_ _ | refine Grows.drew ?_ | assumption | (refine Grows.set ?_ (by first | omega | (simp; done) | (simp; omega)) _))))))); clear hK K))))))); all_goals ((apply gLex_end); intro y7))
        go_wp2_with fail
        go_roundw
        case measure => simp [Go.RowKit.intOf]; omega
        case rel => exact ⟨k + 1, by omega, by rw [HST.out]; go_num, by go_num, ⟨_, y.grows.trans y7.grows⟩, rfl⟩
    · obtain rfl : k = l.length := by omega
      go_wp2_with fail
      go_ret
      exact ⟨rfl, y.grows⟩
end Go.Proofs.Ytiljgkaffgclgaa

/- Contracts: which number is there most often: by the document's answer. -/
namespace Go.Proofs.Ytiljgkaffgclgaa
open Go Go.RowKit
attribute [local go_sem] Oper.semAt_some
/-- Which places hold b, so far as the first k places go. -/
def bsL (l : List Int) (b : Int) (k : Nat) : List Bool := (l.take k).map (· == b) ++ List.replicate (l.length - k) false
theorem bsL_all (l : List Int) (b : Int) : bsL l b l.length = l.map (· == b) := by simp [bsL]
theorem bsL_set {l : List Int} {b : Int} {k : Nat} (hk : k < l.length) : (bsL l b k).set k (gi l k == b) = bsL l b (k + 1) := by
  have e : gi l k = l[k] := by simp [gi, hk]
  unfold bsL
  rw [List.set_append_right _ _ (by simp; omega), List.take_succ_eq_append_getElem hk, List.map_append, e]
  have h1 : ((l.take k).map (· == b)).length = k := by simp; omega
  rw [h1, Nat.sub_self, show l.length - k = (l.length - (k + 1)) + 1 by omega, List.replicate_succ]
  simp
/-- Two rows of truths that are the same. -/
def BestAt (w : World) (l : List Int) (A : Option Addr) (b : Int) (m : Nat) : Prop := Rd w A 1 l.length ((l.map (· == b)).map .bool) ∧ IsBest (fun x => l.count x) (fun x => x ∈ l) b m
set_option maxRecDepth 20000 in
set_option maxHeartbeats 4000000 in
theorem r17Biggest (A : Option Addr) (c : Nat) (l : List Int) (w : World) (h : Rd w A 1 l.length (l.map (.int .i64))) (hl : l.length ≤ 1000000) :
    Calls Try.prog 58 #[.slice A l.length c] w fun e w' => ∃ A' b m, e = .returned (.tuple #[.slice A' l.length l.length, .int .i64 ((m : Nat) : Int)]) ∧ BestAt w' l A' b m ∧ Grows w w' := by
  have HR := hide h
  have CC := hide (fun (v : Int) (W : World) (hg : Grows w W) => r1CountI A c l v W (h.grows hg) hl)
  have mb := fun (w : World) => run_makeBools2 l.length (by omega) w
  clear h
  by_cases h0 : l.length = 0
  · have hnil : l = [] := List.eq_nil_of_length_eq_zero h0
    subst hnil
    clear HR CC mb
    go_enter Try.func58, Try.ntmps58
    go_wp2_with fail
    refine bodyPost_ret (v := .tuple #[.slice none 0 0, .int .i64 0]) (by simp (maxDischargeDepth := 6) [results, Try.results58, go_sem, *]) rfl ?_
    exact ⟨none, 0, 0, rfl, ⟨⟨rfl, fun h => absurd h (by simp)⟩, IsBest.none _ (by simp)⟩, Grows.refl _⟩
  · have hpos : 0 < l.length := by omega
    have hb0 : ((l.length : Int) == 0) = false := beq_eq_false_iff_ne.2 (by omega)
    obtain ⟨g, off, rfl, hc⟩ := HR.out.intsH hpos
    have HC := hide hc
    clear hc HR h0
    go_enter Try.func58, Try.ntmps58
    go_wp2_with fail
    go_loopw [4, 5, 6] (fun s4 s5 s6 wr => ∃ (k : Nat) (b : Int) (m : Nat), k ≤ l.length ∧ s4 = .int .i64 b ∧ s5 = .int .i64 (m : Int) ∧ s6 = .int .i64 (k : Int) ∧ (∃ y : Later w, wr = y.now) ∧ IsBest (fun x => l.count x) (fun x => x ∈ l.take k) b m) (fun _ _ i _ => l.length - (Go.RowKit.intOf i).toNat)
    case atStart => exact ⟨0, 0, 0, by omega, rfl, by go_num, by go_num, ⟨⟨w, Grows.refl _⟩, rfl⟩, IsBest.none _ (by simp)⟩
    case round =>
      obtain ⟨k, b, m, hk, rfl, rfl, rfl, ⟨y, rfl⟩, hb⟩ := hrel
      have HB := hide hb
      clear hb
      by_cases hlt : k < l.length
      · have c1 : Holds w ⟨g, off + k, none⟩ (.int .i64 (gi l k)) := HC.out k hlt
        have CK := hide (fun (W : World) (hg : Grows w W) => CC.out (gi l k) W hg)
        have hf0 : 0 < l.count (gi l k) := List.count_pos_iff.2 (by simp [gi, hlt])
        have HS := hide (fun x => (take_mem1 hlt x).symm)
        have HY := hide (show (m < l.count (gi l k) ∨ (l.count (gi l k) = m ∧ gi l k < b)) → IsBest (fun x => l.count x) (fun z => z ∈ l.take k ∨ z = gi l k) (gi l k) (l.count (gi l k)) from fun hx => IsBest.yes HB.out (x := gi l k) hx hf0)
        have HN := hide (show ¬ (m < l.count (gi l k) ∨ (l.count (gi l k) = m ∧ gi l k < b)) → IsBest (fun x => l.count x) (fun z => z ∈ l.take k ∨ z = gi l k) b m from fun hx => IsBest.no HB.out (x := gi l k) hx hf0)
        have hfl : l.count (gi l k) ≤ 1000000 := Nat.le_trans (List.count_le_length) hl
        clear CC
        generalize gi l k = x at *
        generalize hf : l.count x = f at *
        have HF := hide hf
        clear hf hf0
        by_cases h1 : m < f
        · have HE := hide (IsBest.congr (HY.out (.inl h1)) HS.out)
          clear HY HN HB
          go_wp2_with (go_at_call 108; refine (CK.out _ (y.grows.trans (by repeat (first | exact Grows.refl _ | refine Grows.now ?_ _ | refine Grows.new ?_ _ | refine Grows.drewN ?_ _ | refine Grows.drew ?_ | assumption | (refine Grows.set ?_ (by first | omega | (simp; done) | (simp; omega)) _))))).mono ?_; rintro e w' ⟨rfl, hg⟩; obtain ⟨y1, rfl⟩ := hg.later; clear hg)
          go_roundw
          case measure => simp [Go.RowKit.intOf]; omega
          case rel => exact ⟨k + 1, x, f, by omega, rfl, rfl, by go_num, ⟨⟨_, y.grows.trans y1.grows⟩, rfl⟩, HE.out⟩
        · by_cases h2 : f = m
          · subst h2
            by_cases h3 : x < b
            · have HE := hide (IsBest.congr (HY.out (.inr ⟨rfl, h3⟩)) HS.out)
              clear HY HN HB
              go_wp2_with (go_at_call 108; refine (CK.out _ (y.grows.trans (by repeat (first | exact Grows.refl _ | refine Grows.now ?_ _ | refine Grows.new ?_ _ | refine Grows.drewN ?_ _ | refine Grows.drew ?_ | assumption | (refine Grows.set ?_ (by first | omega | (simp; done) | (simp; omega)) _))))).mono ?_; rintro e w' ⟨rfl, hg⟩; obtain ⟨y1, rfl⟩ := hg.later; clear hg)
              go_roundw
              case measure => simp [Go.RowKit.intOf]; omega
              case rel => exact ⟨k + 1, x, f, by omega, rfl, rfl, by go_num, ⟨⟨_, y.grows.trans y1.grows⟩, rfl⟩, HE.out⟩
            · have HE := hide (IsBest.congr (HN.out (by omega)) HS.out)
              clear HY HN HB
              go_wp2_with (go_at_call 108; refine (CK.out _ (y.grows.trans (by repeat (first | exact Grows.refl _ | refine Grows.now ?_ _ | refine Grows.new ?_ _ | refine Grows.drewN ?_ _ | refine Grows.drew ?_ | assumption | (refine Grows.set ?_ (by first | omega | (simp; done) | (simp; omega)) _))))).mono ?_; rintro e w' ⟨rfl, hg⟩; obtain ⟨y1, rfl⟩ := hg.later; clear hg)
              go_roundw
              case measure => simp [Go.RowKit.intOf]; omega
              case rel => exact ⟨k + 1, b, f, by omega, rfl, rfl, by go_num, ⟨⟨_, y.grows.trans y1.grows⟩, rfl⟩, HE.out⟩
          · have HE := hide (IsBest.congr (HN.out (by omega)) HS.out)
            have hne : ((f : Int) == (m : Int)) = false := beq_eq_false_iff_ne.2 (by omega)
            clear HY HN HB
            go_wp2_with (go_at_call 108; refine (CK.out _ (y.grows.trans (by repeat (first | exact Grows.refl _ | refine Grows.now ?_ _ | refine Grows.new ?_ _ | refine Grows.drewN ?_ _ | refine Grows.drew ?_ | assumption | (refine Grows.set ?_ (by first | omega | (simp; done) | (simp; omega)) _))))).mono ?_; rintro e w' ⟨rfl, hg⟩; obtain ⟨y1, rfl⟩ := hg.later; clear hg)
            go_roundw
            case measure => simp [Go.RowKit.intOf]; omega
            case rel => exact ⟨k + 1, b, m, by omega, rfl, rfl, by go_num, ⟨⟨_, y.grows.trans y1.grows⟩, rfl⟩, HE.out⟩
      · obtain rfl : k = l.length := by omega
        have HE := hide (IsBest.congr HB.out (fun x => by rw [List.take_length]))
        clear HB CC
        go_upto_region 12 with fail
        have hR : RBAt y.now y.now.heap.size (bsL l b 0) (y.now.alloc (Obj.cells (Array.replicate l.length (Value.bool false)) 4)) := by
          rw [← List.toArray_replicate]
          refine ⟨⟨_, (Grows.refl _).new _⟩, rfl, ?_, Nat.le_refl _⟩
          have := Arr.make y.now (List.replicate l.length (Value.bool false)) 4
          simpa [bsL] using this
        generalize (y.now.alloc (Obj.cells (Array.replicate l.length (Value.bool false)) 4)) = W1 at *
        generalize y.now.heap.size = gd at *
        obtain ⟨y1, rfl, _⟩ := id hR
        have HR1 := hide hR
        clear hR mb
        go_wp2_with fail
        go_loopw [9] (fun s9 wr => ∃ k : Nat, k ≤ l.length ∧ s9 = .int .i64 (k : Int) ∧ RBAt y.now gd (bsL l b k) wr) (fun i _ => l.length - (Go.RowKit.intOf i).toNat)
        case atStart => exact ⟨0, by omega, by go_num, HR1.out⟩
        case round =>
          obtain ⟨k, hk, rfl, hb⟩ := hrel
          obtain ⟨y2, rfl, hd, _⟩ := id hb
          have HRK := hide hb
          clear hb HR1
          by_cases hlk : k < l.length
          · have c1 : Holds w ⟨g, off + k, none⟩ (.int .i64 (gi l k)) := HC.out k hlk
            have c2 : Holds y2.now ⟨g, off + k, none⟩ (.int .i64 (gi l k)) := ⟨(y.grows.trans y2.grows).keeps c1.cell⟩
            have m1 := hd.mine k (bb_at (by simp [bsL]; omega))
            have HSB := hide (bsL_set (b := b) hlk)
            clear hd c1
            generalize gi l k = x at *
            generalize bb (bsL l b k) k = q at *
            go_wp2_with fail
            go_roundw
            case measure => simp [Go.RowKit.intOf]; omega
            case rel => exact ⟨k + 1, by omega, by go_num, by rw [← HSB.out]; exact HRK.out.put (Grows.refl _) _ _⟩
          · obtain rfl : k = l.length := by omega
            go_wp2_with fail
            obtain ⟨y5, e5, h5, _⟩ := HRK.out
            refine bodyPost_ret (v := .tuple #[.slice (some ⟨gd, 0, none⟩) l.length l.length, .int .i64 (m : Int)]) (by simp (maxDischargeDepth := 6) [results, Try.results58, go_sem, *]) rfl ?_
            refine ⟨some ⟨gd, 0, none⟩, b, m, rfl, ⟨?_, HE.out⟩, y.grows.trans y2.grows⟩
            rw [e5]
            rw [bsL_all] at h5
            exact h5.rd (by simp)
end Go.Proofs.Ytiljgkaffgclgaa

/- Contract: which number is there most often, by the program. -/
namespace Go.Proofs.Ytiljgkaffgclgaa
open Go Go.RowKit Go.Maps
attribute [local go_sem] Oper.semAt_some
def cntM (l : List Int) (z : Int) : Option Int := if z ∈ l then some ((l.count z : Nat) : Int) else none
theorem cntM_snoc {l : List Int} {k : Nat} (hk : k < l.length) (z : Int) : (if z = gi l k then some ((cntM (l.take k) (gi l k)).getD 0 + 1) else cntM (l.take k) z) = cntM (l.take (k + 1)) z := by
  have e : l.take (k + 1) = l.take k ++ [gi l k] := by rw [List.take_succ_eq_append_getElem hk]; simp [gi, hk]
  unfold cntM
  rw [e]
  by_cases hz : z = gi l k
  · subst hz
    have hin : gi l k ∈ l.take k ++ [gi l k] := by simp
    by_cases hm : gi l k ∈ l.take k
    · simp [hm]
    · simp [hm, List.count_eq_zero_of_not_mem hm]
  · rw [if_neg hz]
    have h1 : z ∈ l.take k ++ [gi l k] ↔ z ∈ l.take k := by simp [hz]
    have h2 : List.count z [gi l k] = 0 := List.count_eq_zero_of_not_mem (by simp [hz])
    simp only [h1, List.count_append, h2, Nat.add_zero]
theorem cntM_zero (l : List Int) (z : Int) : ((cntM l z).getD 0 == 0) = !decide (z ∈ l) := by
  unfold cntM
  by_cases h : z ∈ l
  · have : 0 < l.count z := List.count_pos_iff.2 h
    rw [if_pos h, decide_eq_true h]
    simp
    omega
  · rw [if_neg h, decide_eq_false h]; rfl
theorem cntM_le (l : List Int) (z : Int) : 0 ≤ (cntM l z).getD 0 ∧ (cntM l z).getD 0 ≤ l.length := by
  unfold cntM
  have := List.count_le_length (l := l) (a := z)
  by_cases h : z ∈ l
  · rw [if_pos h]; simp; exact this
  · rw [if_neg h]; simp


theorem elemBool1 : Elem 68 4 1 := by
  have h : (Try.prog.info? 4).map (fun i => (i.zero, i.size, i.bytes)) = some (some (.bool false), 1, 1) := by kernel_rfl
  obtain ⟨i, hi, hz, hs, hb⟩ := info_parts h
  exact ⟨Try.underlying68, ⟨i, _, 1, hi, hz, hs, hb, rfl, by omega⟩, by omega⟩
/-- While a map is gone through: the best of those that have come. -/
def RgAt (l : List Int) (bM r n : Nat) (D : DataW Unit) (left : Lit → Bool) (cnt : Nat) (b : Int) (m : Nat) (wr : World) : Prop :=
  wr.ranges Try.prog 3 (plainElem Try.prog 3) bM r n D left cnt ∧ IsBest (fun x => l.count x) (fun x => Maps.has D (.int .i64 x) = true ∧ left (.int .i64 x) = false) b m
set_option maxRecDepth 40000 in
set_option maxHeartbeats 8000000 in
theorem paBiggest (A : Option Addr) (c : Nat) (l : List Int) (w : World) (h : Rd w A 1 l.length (l.map (.int .i64))) (hl : l.length ≤ 1000000) (hw : ∀ j, j < l.length → I64 (gi l j)) :
    Calls Try.prog 57 #[.slice A l.length c] w fun e w' => ∃ A' c' b m, e = .returned (.tuple #[.slice A' l.length c', .int .i64 ((m : Nat) : Int)]) ∧ BestAt w' l A' b m ∧ Grows w w' := by
  have HR := hide h
  have HI := hide hw
  clear h hw
  have hmm := @run_makeMap Try.prog
  go_enter Try.func57, Try.ntmps57
  go_upto_region 2 with fail
  have HM := hide (MapII.made w)
  have hgm : Grows w (w.alloc (.map #[] 0)) := (Grows.refl w).new _
  obtain ⟨y0, hy0⟩ : ∃ y : Later w, y.now = w.alloc (.map #[] 0) := ⟨⟨_, hgm⟩, rfl⟩
  clear hmm
  rw [← hy0] at HM
  rw [← hy0]
  obtain ⟨bM, hbM⟩ : ∃ b, b = w.heap.size := ⟨_, rfl⟩
  have hlo : w.heap.size ≤ bM := by omega
  rw [← hbM] at HM
  rw [← hbM]
  clear hbM hy0 hgm
  go_wp2_with fail
  go_loopw [15] (fun i wr => ∃ k : Nat, k ≤ l.length ∧ i = .int .i64 (k : Int) ∧ (∃ y : Later w, wr = y.now) ∧ ∃ s, MapII wr bM k s (cntM (l.take k))) (fun i _ => l.length - (Go.RowKit.intOf i).toNat)
  case atStart => exact ⟨0, by omega, by go_num, ⟨y0, rfl⟩, 0, by rw [show cntM (l.take 0) = fun _ => none from rfl]; exact HM.out⟩
  case round =>
    obtain ⟨q, hq, rfl, ⟨y, rfl⟩, s, hmap⟩ := hrel
    clear HM
    by_cases hend : q < l.length
    · obtain ⟨bb, off, rfl, hc⟩ := HR.out.intsH (by omega)
      have hc1 := hc q hend
      have hwq := HI.out q hend
      have HH := hide hmap
      obtain ⟨hc0, hc2⟩ := cntM_le (l.take q) (gi l q)
      have hlen : (l.take q).length ≤ q := List.length_take_le _ _
      have hw2 : I64 ((cntM (l.take q) (gi l q)).getD 0 + 1) := ⟨by omega, by omega⟩
      have hlt : (cntM (l.take q) (gi l q)).getD 0 ≤ 1000000 := by omega
      have HQ := hide (cntM_snoc (l := l) (k := q) hend)
      clear hc hmap hc2 hlen
      go_wp2_with (first
        | (at_lookup; refine wp_mapGet rfl _ _ rfl bM q s _ rfl HH.out _ rfl hwq ?_)
        | (at_mapUpdate; refine wp_mapPut rfl _ _ _ rfl bM q s _ rfl HH.out (by unfold maxLen; omega) _ _ rfl rfl hwq hw2 ?_; intro w1 hmap1 hg1))
      obtain ⟨y1, rfl⟩ := (y.grows.row hlo hg1).later
      go_roundw
      case measure => simp [Go.RowKit.intOf]; omega
      case rel => exact ⟨q + 1, by omega, by go_num, ⟨_, rfl⟩, _, by rw [← funext HQ.out]; exact hmap1⟩
    · obtain rfl : q = l.length := by omega
      rw [List.take_length] at hmap
      obtain ⟨D, hD1, hD2, hD3, hD4⟩ := hmap
      have HD := hide hD1
      have HH3 := hide (show ∀ x, Maps.has D (.int .i64 x) = true ↔ x ∈ l from fun x => by
        rw [hD3]
        unfold cntM
        split
        · rename_i hx; simp [hx]
        · rename_i hx; simp [hx])
      have HH4 := hide (show ∀ x, x ∈ l → D.atKey (.int .i64 x) (.lit (.int .i64 0)) = .lit (.int .i64 ((l.count x : Nat) : Int)) from fun x hx => by
        rw [hD4]
        unfold cntM
        rw [if_pos hx]
        rfl)
      clear hD1 hD2 hD3 hD4
      go_wp2_with (at_range; refine wpList_range_own _ rfl _ 138 rfl 3 3 keyedI Try.underlying138 _ bM l.length D rfl HD.out ?_; intro w0 hrg0 hg0 hs0)
      have hr : w.heap.size ≤ y.now.heap.size := y.size
      obtain ⟨y1, hy1⟩ : ∃ y1 : Later w, y1.now = w0 := ⟨⟨w0, y.grows.row hr (hg0.but _)⟩, rfl⟩
      have hrg1 := hrg0
      generalize y.now.heap.size = r at *
      rw [← hy1] at hrg1
      rw [← hy1]
      have HB0 := hide (show IsBest (fun x => l.count x) (fun x => Maps.has D (.int .i64 x) = true ∧ Maps.has D (.int .i64 x) = false) 0 0 from IsBest.none _ (fun x hx => by rw [hx.1] at hx; cases hx.2))
      have HRG0 := hide hrg1
      clear hrg0 hrg1 hg0 hs0 hy1 HD
      go_frame
      go_loopw [3, 7] (fun s3 s7 wr => ∃ (left : Lit → Bool) (cnt : Nat) (b : Int) (m : Nat), s3 = .int .i64 (m : Int) ∧ s7 = .int .i64 b ∧ (∃ v : Later w, wr = v.now) ∧ RgAt l bM r l.length D left cnt b m wr) (fun _ _ wr => wr.rangeLeft bM r)
      case atStart => exact ⟨_, _, 0, 0, by go_num, by go_num, ⟨y1, rfl⟩, HRG0.out, HB0.out⟩
      case round =>
        obtain ⟨left, cnt, b, m, rfl, rfl, ⟨v, rfl⟩, hrg, hb⟩ := hrel
        have HRG := hide hrg
        have HB := hide hb
        clear hrg hb HB0 HRG0
        go_wp2_with (at_next; refine wpList_next_ranges_ii _ rfl _ rfl 3 3 .i64 .i64 keyedI Try.underlying3 Try.underlying3 bM r l.length D left cnt rfl HRG.out ?_ ?_)
        · intro hc0 hl0
          have HE := hide (IsBest.congr HB.out (S' := fun x => x ∈ l) (fun x => by rw [hl0, HH3.out]; simp))
          clear HB HRG hc0 hl0 HH3 HH4
          go_wp2_with fail
          go_loopw [2, 48] (fun s2 s48 wr => ∃ (k : Nat) (A3 : Option Addr) (c3 : Nat), k ≤ l.length ∧ s48 = .int .i64 (k : Int) ∧ s2 = .slice A3 k c3 ∧ ∃ y3 : Later v.now, wr = y3.now ∧ Own y3.now v.now.heap.size 4 1 A3 k c3 (((l.take k).map (· == b)).map .bool)) (fun _ i _ => l.length - (Go.RowKit.intOf i).toNat)
          case atStart => exact ⟨0, none, 0, by omega, by go_num, rfl, ⟨v.now, Grows.refl _⟩, rfl, by simpa using Own.nil _ _ _ _⟩
          case round =>
            obtain ⟨k, A3, c3, hk, rfl, rfl, y3, rfl, ho⟩ := hrel
            have HO := hide ho
            clear ho
            by_cases hlk : k < l.length
            · obtain ⟨g, off, rfl, hc⟩ := HR.out.intsH (by omega)
              have c1 : Holds y3.now ⟨g, off + k, none⟩ (.int .i64 (gi l k)) := ⟨(v.grows.trans y3.grows).keeps (hc k hlk).cell⟩
              have HSN := hide (show ((l.take (k + 1)).map (· == b)).map Value.bool = ((l.take k).map (· == b)).map Value.bool ++ [.bool (gi l k == b)] from by
                have e : gi l k = l[k] := by simp [gi, hlk]
                rw [List.take_succ_eq_append_getElem hlk, List.map_append, List.map_append, e]
                rfl)
              clear hc
              generalize gi l k = x at *
              go_wp2_with (at_builtin; refine wp_app1 elemBool1 rfl _ _ rfl v.now (by repeat (first | exact Grows.refl _ | refine Grows.now ?_ _ | refine Grows.new ?_ _ | refine Grows.drewN ?_ _ | refine Grows.drew ?_ | assumption | (refine Grows.set ?_ (by first | omega | (simp; done) | (simp; omega)) _))) k c3 A3 _ rfl (HO.out.new _) _ _ _ rfl inferInstance rfl (by omega) ?_; intro A4 c4 y4 hown4; have HO4 := hide hown4; clear hown4)
              go_roundw
              case measure => simp [Go.RowKit.intOf]; omega
              case rel => exact ⟨k + 1, A4, c4, by omega, by go_num, rfl, y4, rfl, by rw [HSN.out]; exact HO4.out⟩
            · obtain rfl : k = l.length := by omega
              go_wp2_with fail
              refine bodyPost_ret (v := .tuple #[.slice A3 l.length c3, .int .i64 (m : Int)]) (by simp (maxDischargeDepth := 6) [results, Try.results57, go_sem, *]) rfl ?_
              have ho := HO.out.rd
              rw [List.take_length] at ho
              exact ⟨A3, c3, b, m, rfl, ⟨ho, HE.out⟩, v.grows.trans y3.grows⟩
        · intro x cc w1 cnt1 hwx hwc hlx hat hrg1 hlt hg1 hs1 hen
          have hx : x ∈ l := (HH3.out x).1 (has_true_of_atKey hat)
          have hcc : cc = ((l.count x : Nat) : Int) := by
            have h1 := hat (.lit (.int .i64 0))
            rw [HH4.out x hx] at h1
            injection h1 with h1
            injection h1 with _ h1
            exact h1.symm
          subst hcc
          have hf0 : 0 < l.count x := List.count_pos_iff.2 hx
          have HS := hide (show ∀ z : Int, ((Maps.has D (.int .i64 z) = true ∧ left (.int .i64 z) = false) ∨ z = x) ↔ (Maps.has D (.int .i64 z) = true ∧ (left (.int .i64 z) && !(Lit.int .i64 z).sameKey (.int .i64 x)) = false) from fun z => by
            by_cases hz : z = x
            · subst hz
              simp [has_true_of_atKey hat, Lit.sameKey]
            · simp [hz, Lit.sameKey])
          have HY := hide (show (m < l.count x ∨ (l.count x = m ∧ x < b)) → IsBest (fun x => l.count x) (fun z => (Maps.has D (.int .i64 z) = true ∧ left (.int .i64 z) = false) ∨ z = x) x (l.count x) from fun h => IsBest.yes HB.out h hf0)
          have HN := hide (show ¬ (m < l.count x ∨ (l.count x = m ∧ x < b)) → IsBest (fun x => l.count x) (fun z => (Maps.has D (.int .i64 z) = true ∧ left (.int .i64 z) = false) ∨ z = x) b m from fun h => IsBest.no HB.out h hf0)
          have HRG1 := hide hrg1
          have HG1 := hide hg1
          have HLT := hide hlt
          clear hwx hwc hlx hat hrg1 hlt hg1 hs1 hx HH3 HH4 HB
          generalize hf : l.count x = f at *
          have HF := hide hf
          clear hf hf0
          by_cases h1 : m < f
          · have HE := hide (IsBest.congr (HY.out (.inl h1)) HS.out)
            clear HY HN
            go_wp2_with fail
            go_roundw
            case measure => rw [HRG1.out.left_eq, HRG.out.left_eq]; exact HLT.out
            case rel => exact ⟨_, cnt1, x, f, rfl, rfl, ⟨⟨_, v.grows.row hr HG1.out⟩, rfl⟩, HRG1.out, HE.out⟩
          · by_cases h2 : f = m
            · subst h2
              by_cases h3 : x < b
              · have HE := hide (IsBest.congr (HY.out (.inr ⟨rfl, h3⟩)) HS.out)
                clear HY HN
                go_wp2_with fail
                go_roundw
                case measure => rw [HRG1.out.left_eq, HRG.out.left_eq]; exact HLT.out
                case rel => exact ⟨_, cnt1, x, f, rfl, rfl, ⟨⟨_, v.grows.row hr HG1.out⟩, rfl⟩, HRG1.out, HE.out⟩
              · have HE := hide (IsBest.congr (HN.out (by omega)) HS.out)
                clear HY HN
                go_wp2_with fail
                go_roundw
                case measure => rw [HRG1.out.left_eq, HRG.out.left_eq]; exact HLT.out
                case rel => exact ⟨_, cnt1, b, f, rfl, rfl, ⟨⟨_, v.grows.row hr HG1.out⟩, rfl⟩, HRG1.out, HE.out⟩
            · have HE := hide (IsBest.congr (HN.out (by omega)) HS.out)
              have hne : ((f : Int) == (m : Int)) = false := beq_eq_false_iff_ne.2 (by omega)
              clear HY HN
              go_wp2_with fail
              go_roundw
              case measure => rw [HRG1.out.left_eq, HRG.out.left_eq]; exact HLT.out
              case rel => exact ⟨_, cnt1, b, m, rfl, rfl, ⟨⟨_, v.grows.row hr HG1.out⟩, rfl⟩, HRG1.out, HE.out⟩
end Go.Proofs.Ytiljgkaffgclgaa

/- The law PartsCounts, walked: how many unlike numbers there are, and which is there most often. -/
namespace Go.Proofs.Ytiljgkaffgclgaa
open Go Go.RowKit
theorem Rd.blockV {w : World} {A : Option Addr} {size n : Nat} {xs : List Value} (h : Rd w A size n xs) (hs : 0 < size) : 0 < n → ∀ p, A = some p → p.block < w.heap.size := by
  intro hn p hp
  obtain ⟨b, off, e, hc⟩ := h.2 hn hs
  rw [e] at hp
  obtain rfl := Option.some.inj hp
  have hl : 0 < xs.length := by rw [h.1]; exact Nat.mul_pos hn hs
  have := hc 0 _ (List.getElem?_eq_getElem hl)
  rcases Nat.lt_or_ge b w.heap.size with h1 | h1
  · exact h1
  · simp [World.cell?, Array.getElem?_eq_none h1] at this
theorem i64_of_wf {z : Int} (h : (Lit.int .i64 z).wf = true) : I64 z := by
  unfold I64
  simp [Lit.wf, IntKind.min, IntKind.max, IntKind.bits, IntKind.signed] at h
  omega
set_option maxRecDepth 40000 in
set_option maxHeartbeats 8000000 in
theorem partsCountsW (A : Option Addr) (n c : Nat) (l : List Int) (w : World) (hnc : n ≤ c) (h : Rd w A 1 n (l.map (.int .i64))) (hwf : ∀ z ∈ l, (Lit.int .i64 z).wf = true) :
    Calls Try.prog 11 #[.slice A n c] w fun e w' => e = .returned (.bool true) ∧ Grows w w' := by
  have CA := hide (fun (W : World) => alive17 W)
  have hel : l.length = n := by simpa using h.len
  subst hel
  by_cases h200 : 200 < l.length
  · clear h hwf
    go_enter Try.func11, Try.ntmps11
    go_wp2_with (go_at_call 38; refine (CA.out _).mono ?_; rintro e w' ⟨rfl, hg⟩; obtain ⟨x2, rfl⟩ := hg.later; clear hg)
    go_ret
    exact ⟨rfl, (by repeat (first | exact Grows.refl _ | refine Grows.now ?_ _ | refine Grows.new ?_ _ | refine Grows.drewN ?_ _ | refine Grows.drew ?_ | assumption | (refine Grows.set ?_ (by first | omega | (simp; done) | (simp; omega)) _)))⟩
  · have hl : l.length ≤ 200 := by omega
    have CB := hide (fun (W : World) (hg : Grows w W) => paBiggest A c l W (h.grows hg) (by omega) (fun j hj => i64_of_wf (hwf _ (by simp [gi, hj]))))
    have CR := hide (fun (W : World) (hg : Grows w W) => r17Biggest A c l W (h.grows hg) (by omega))
    have CN := hide (fun (W : World) (hg : Grows w W) => paCount A c l W (h.grows hg) (fun hn p hp => Nat.lt_of_lt_of_le (h.blockV (by omega) hn p hp) hg.size) (by omega))
    have CM := hide (fun (W : World) (hg : Grows w W) => r17Count A c l W (h.grows hg) (by omega) hnc)
    have CT := hide (fun (A1 A2 : Option Addr) (c1 c2 : Nat) (b : Int) (W : World) (h1 : Rd W A1 1 l.length ((l.map (· == b)).map .bool)) (h2 : Rd W A2 1 l.length ((l.map (· == b)).map .bool)) => by
      have := tr17R A1 A2 c1 c2 (l.map (· == b)) W (by rw [List.length_map]; exact h1) (by rw [List.length_map]; exact h2) (by rw [List.length_map]; omega)
      rw [List.length_map] at this
      exact this)
    have hfl : (fsts l l.length).length ≤ 200 := by
      have h1 := len_le_of_sub (fsts l l.length) l (fsts_is l l.length (Nat.le_refl _)).1 (fun x hx => by have := ((fsts_is l l.length (Nat.le_refl _)).2 x).1 hx; rwa [List.take_length] at this)
      omega
    clear h hwf
    generalize (fsts l l.length).length = fl at *
    go_enter Try.func11, Try.ntmps11
    go_upto_region 5 with (first
      | (go_at_call 57; refine (CB.out _ (by repeat (first | exact Grows.refl _ | refine Grows.now ?_ _ | refine Grows.new ?_ _ | refine Grows.drewN ?_ _ | refine Grows.drew ?_ | assumption | (refine Grows.set ?_ (by first | omega | (simp; done) | (simp; omega)) _)))).mono ?_; rintro e w' ⟨A1, c1, b1, m1, rfl, hb1, hg⟩; obtain ⟨x1, rfl⟩ := hg.later; have HB1 := hide hb1; clear hg hb1)
      | (go_at_call 58; refine (CR.out _ (by repeat (first | exact Grows.refl _ | refine Grows.now ?_ _ | refine Grows.new ?_ _ | refine Grows.drewN ?_ _ | refine Grows.drew ?_ | assumption | (refine Grows.set ?_ (by first | omega | (simp; done) | (simp; omega)) _)))).mono ?_; rintro e w' ⟨A2, b2, m2, rfl, hb2, hg⟩; obtain ⟨x2, rfl⟩ := hg.later; have HB2 := hide hb2; clear hg hb2))
    obtain ⟨rfl, rfl⟩ := HB1.out.2.uniq HB2.out.2
    have CT2 := hide (fun (W : World) (hg : Grows x2.now W) (d1 d2 : Nat) => CT.out A1 A2 d1 d2 b1 W (HB1.out.1.grows (x2.grows.trans hg)) (HB2.out.1.grows hg))
    clear HB1 HB2 CT CB CR
    go_wp2_with (first
      | (go_at_call 59; refine (CN.out _ (by repeat (first | exact Grows.refl _ | refine Grows.now ?_ _ | refine Grows.new ?_ _ | refine Grows.drewN ?_ _ | refine Grows.drew ?_ | assumption | (refine Grows.set ?_ (by first | omega | (simp; done) | (simp; omega)) _)))).mono ?_; rintro e w' ⟨rfl, hg⟩; obtain ⟨x3, rfl⟩ := hg.later; clear hg)
      | (go_at_call 60; refine (CM.out _ (by repeat (first | exact Grows.refl _ | refine Grows.now ?_ _ | refine Grows.new ?_ _ | refine Grows.drewN ?_ _ | refine Grows.drew ?_ | assumption | (refine Grows.set ?_ (by first | omega | (simp; done) | (simp; omega)) _)))).mono ?_; rintro e w' ⟨rfl, hg⟩; obtain ⟨x4, rfl⟩ := hg.later; clear hg)
      | (go_at_call 39; refine (CT2.out _ (by repeat (first | exact Grows.refl _ | refine Grows.now ?_ _ | refine Grows.new ?_ _ | refine Grows.drewN ?_ _ | refine Grows.drew ?_ | assumption | (refine Grows.set ?_ (by first | omega | (simp; done) | (simp; omega)) _))) _ _).mono ?_; rintro e w' ⟨rfl, hg⟩; obtain ⟨x5, rfl⟩ := hg.later; clear hg)
      | (go_at_call 38; refine (CA.out _).mono ?_; rintro e w' ⟨rfl, hg⟩; obtain ⟨x6, rfl⟩ := hg.later; clear hg))
    go_ret
    exact ⟨rfl, (by repeat (first | exact Grows.refl _ | refine Grows.now ?_ _ | refine Grows.new ?_ _ | refine Grows.drewN ?_ _ | refine Grows.drew ?_ | assumption | (refine Grows.set ?_ (by first | omega | (simp; done) | (simp; omega)) _)))⟩
end Go.Proofs.Ytiljgkaffgclgaa

/- The law PartsCounts: for every input it returns true, and each argument reads as before. No condition. -/
namespace Go.Proofs.Ytiljgkaffgclgaa.lawPartsCounts
open Go Go.ChangeShapes Go.WideShapes Go.ChangeAt Go.RowKit Go.Proofs.Ytiljgkaffgclgaa

theorem own : ownKnob Try.prog.godebug = none := by kernel_rfl
theorem laidOut : laidOutB Try.prog = true := by kernel_rfl

set_option maxRecDepth 100000 in
theorem lifted (os : Os) (started : os.Started) (H : Type) (enc : TypeId × Value → H) :
    ReturnsInHanded {} Try.checked os 11 .any (Rows.partsCountsSpec.pre6 enc Try.prog Try.f11 Rows.partsCountsRow.domain false) (Rows.partsCountsSpec.post enc Try.prog Try.f11 false true false false) := by
  refine returnsInHanded_of_change (C := Try.checked) own started (by kernel_rfl) Try.func11
    (ChangeSpec.witness6 (enc := enc) (C := Try.checked) false ⟨#[], #[.slice none 0 0], []⟩ 8 (by kernel_rfl) (by kernel_rfl) (by kernel_rfl) (by kernel_rfl)) ?_
  intro W base args ds gs before hval0 hW hcnd _
  have hval : ∀ (j : Nat) t v, Try.f11.params[j]? = some t → args[j]? = some v → Value.okWide Try.prog W .any base t v := hval0
  have hW' := hW
  obtain ⟨p, q, hA0, hV, rfl, hfz, hnd⟩ := hW
  have hA : DataW.TrodAll enc Try.prog W 0 (fun _ => true) true Try.f11.params.toList args.toList ds p := hA0
  rw [Try.params11] at hA hval
  obtain ⟨v0, vs0, d0, ds0, p0, q0, hargs, rfl, rfl, h0, r0⟩ := trodAll_cons hA
  obtain ⟨rfl, rfl, rfl⟩ := trodAll_nil r0
  obtain rfl : args = #[v0] := by cases args; simp_all
  obtain ⟨rfl, rfl⟩ := trodVars_none hV
  have k0 := h0
  have lt0 : ∀ x ∈ p0, x.block < W.heap.size := by obtain ⟨m, hm⟩ := k0; exact DataW.trod_lt m _ _ _ hm
  obtain ⟨A0, n0, c0, z0, rfl, l0, w0, u0⟩ := open_numsC Try.underlying25 Try.underlying3 (by kernel_rfl) (hval 0 25 v0 rfl rfl) h0
  clear hA0 hval0
  refine (partsCountsW A0 n0 c0 z0 W l0 w0 u0).mono fun e W' ⟨he, bel⟩ => ?_
  subst he
  exact ⟨_, rfl, _, _, _, [], _, [], hW', trodAll_mk1 (shut_bool Try.underlying4 _), (trodAll_cons_mk (Below.trod laidOut (by kernel_rfl) (of_decide_eq_true (by kernel_rfl)) k0 bel lt0) trodAll_mk0), rfl, Below.frame bel _, fun h => by cases h⟩

theorem over : Rows.partsCountsRow.holds Try.pinned (OpenSpec.ofChange Rows.partsCountsSpec) :=
  OpenClaim.holds_of_wide 11 Try.f11 rfl rfl rfl rfl rfl rfl rfl ⟨rfl, rfl, rfl, rfl, rfl⟩ rfl rfl rfl rfl rfl (by kernel_rfl) Try.func11 (by kernel_rfl)
    (of_decide_eq_true (by kernel_rfl)) (by unfold Func.isWrapper; first | (rw [if_pos (by decide +kernel)]; kernel_rfl) | (rw [if_neg (by decide +kernel)]; exact ⟨rfl, rfl⟩))
    (fun os started H enc _ => lifted os started H enc)

end Go.Proofs.Ytiljgkaffgclgaa.lawPartsCounts
namespace Go.Proofs.Ytiljgkaffgclgaa
/-- The statement. -/
theorem partsCounts_proved : Rows.PartsCountsSaid := lawPartsCounts.over
#print axioms partsCounts_proved
end Go.Proofs.Ytiljgkaffgclgaa
