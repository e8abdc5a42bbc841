/- Contracts: rows that forget. -/
import Derived.RangeFuncSeq
import Derived.RangeFuncLeaves
import Derived.RangeFuncRecord
import Derived.RangeFuncCalls
import Derived.Test.YtgplpgldhoelcaaGreatQPenWays02
import Derived.Test.YtgplpgldhoelcaaGreatQPenWays03
namespace Go.Proofs.YtgplpgldhoelcaaGreat
open Go Go.RowKit
def scCells (p : Nat × Nat) : List Value := [.int .u64 (p.1 : Int), .int .u64 (p.2 : Int)]
def scs (L : List (Nat × Nat)) : List Value := L.flatMap scCells
def gp (L : List (Nat × Nat)) (i : Nat) : Nat × Nat := L.getD i (0, 0)
theorem scs_len (L : List (Nat × Nat)) : (scs L).length = L.length * 2 := flat_len scCells 2 (fun _ => rfl) L
theorem scs_at (L : List (Nat × Nat)) (i j : Nat) (hi : i < L.length) (hj : j < 2) : (scs L)[i * 2 + j]? = (scCells (gp L i))[j]? := flat_get scCells 2 (fun _ => rfl) (0, 0) L i j hi hj
theorem gp_set (L : List (Nat × Nat)) (i j : Nat) (p : Nat × Nat) (hi : i < L.length) : gp (L.set i p) j = if j = i then p else gp L j := by
  unfold gp
  by_cases h : j = i
  · subst h; simp [hi]
  · simp [h, Ne.symm h]
theorem scs_set (L : List (Nat × Nat)) (i : Nat) (p : Nat × Nat) (hi : i < L.length) : ((scs L).set (i * 2) (.int .u64 (p.1 : Int))).set (i * 2 + 1) (.int .u64 (p.2 : Int)) = scs (L.set i p) := by
  apply List.ext_getElem?
  intro k
  have hk : k = k / 2 * 2 + k % 2 := (Nat.div_add_mod' k 2).symm
  have hm : k % 2 < 2 := Nat.mod_lt _ (by omega)
  have hl := scs_len L
  have hl2 := scs_len (L.set i p)
  rw [List.length_set] at hl2
  rcases Nat.lt_or_ge (k / 2) L.length with hlt | hge
  · have h1 := scs_at L (k / 2) (k % 2) hlt hm
    have h2 := scs_at (L.set i p) (k / 2) (k % 2) (by simpa using hlt) hm
    rw [← hk] at h1 h2
    rw [h2, gp_set _ _ _ _ hi]
    by_cases he : k / 2 = i
    · rw [if_pos he]
      rcases (by omega : k = i * 2 ∨ k = i * 2 + 1) with e | e
      · have e2 : k % 2 = 0 := by omega
        rw [List.getElem?_set_ne (by omega), e, List.getElem?_set_self (by omega)]
        rw [e] at e2
        rw [e2]; rfl
      · have e2 : k % 2 = 1 := by omega
        rw [e, List.getElem?_set_self (by simp; omega)]
        rw [e] at e2
        rw [e2]; rfl
    · rw [if_neg he, List.getElem?_set_ne (by omega), List.getElem?_set_ne (by omega), h1]
  · rw [List.getElem?_eq_none (by simp; omega), List.getElem?_eq_none (by omega)]
structure StL (w : World) (b g : Nat) (L : List (Nat × Nat)) (m : Int) : Prop where
  row : Arr w b 290 [.slice (some ⟨g, 0, none⟩) L.length L.length, .int .u64 1, .int .i64 m]
  cells : Row1 w g 331 2 L.length L.length (scs L)
theorem StL.c0 {w : World} {b g : Nat} {L : List (Nat × Nat)} {m : Int} (h : StL w b g L m) {i : Nat} (hi : i < L.length) : Mine w ⟨g, i * 2, none⟩ (.int .u64 ((gp L i).1 : Int)) :=
  h.cells.mine (by have := scs_at L i 0 hi (by omega); rw [Nat.add_zero] at this; rw [this]; rfl)
theorem StL.c1 {w : World} {b g : Nat} {L : List (Nat × Nat)} {m : Int} (h : StL w b g L m) {i : Nat} (hi : i < L.length) : Mine w ⟨g, i * 2 + 1, none⟩ (.int .u64 ((gp L i).2 : Int)) :=
  h.cells.mine (by rw [scs_at L i 1 hi (by omega)]; rfl)
theorem StL.ne {w : World} {b g : Nat} {L : List (Nat × Nat)} {m : Int} (h : StL w b g L m) : g ≠ b := h.cells.ne h.row (by decide)
theorem StL.touch {w w' : World} {b g : Nat} {L : List (Nat × Nat)} {m : Int} {S : Nat → Prop} (h : StL w b g L m) (ht : Touch S w w') (h1 : ¬ S b) (h2 : ¬ S g) : StL w' b g L m := ⟨h.row.touch ht h1, h.cells.touch ht h2⟩
theorem StL.grow {w w' : World} {b g : Nat} {L : List (Nat × Nat)} {m : Int} (h : StL w b g L m) (ht : Grows w w') : StL w' b g L m := ⟨h.row.grow ht, h.cells.grow ht⟩
theorem stLen (b : Nat) (g n c : Nat) (u : Value) (v : Value) (w : World) (h : Arr w b 290 [.slice (some ⟨g, 0, none⟩) n c, u, v]) : Calls Tryz.prog 273 #[.pointer (some ⟨b, 0, none⟩)] w fun e w' => e = .returned (.int .i64 (n : Int)) ∧ w = w' := by
  go_enter Tryz.func273, Tryz.ntmps273
  go_wp2
  go_ret
  exact ⟨rfl, rfl⟩
theorem stAt (b g n c : Nat) (u v : Value) (i : Nat) (w : World) (h : Arr w b 290 [.slice (some ⟨g, 0, none⟩) n c, u, v]) (hi : i < n) : Calls Tryz.prog 267 #[.pointer (some ⟨b, 0, none⟩), .int .i64 (i : Int)] w fun e w' => e = .returned (.pointer (some ⟨g, i * 2, none⟩)) ∧ w = w' := by
  go_enter Tryz.func267, Tryz.ntmps267
  go_wp2_with (first | (go_at_call 273; refine (stLen b g n c u v _ h).mono ?_; rintro e w' ⟨rfl, rfl⟩))
  go_ret
  exact ⟨rfl, rfl⟩
set_option maxHeartbeats 1000000 in
theorem stGet (b g : Nat) (L : List (Nat × Nat)) (m : Int) (i : Nat) (w : World) (h : StL w b g L m) (hi : i < L.length) :
    Calls Tryz.prog 253 #[.pointer (some ⟨b, 0, none⟩), .int .i64 (i : Int)] w fun e w' => e = .returned (.tuple #[.int .u64 (if (gp L i).2 = 1 then ((gp L i).1 : Int) else 0), .bool (decide ((gp L i).2 = 1))]) ∧ Grows w w' := by
  have m0 := h.c0 hi
  have m1 := h.c1 hi
  have hr := h.row
  have HR := hide hr
  generalize gp L i = p at *
  obtain ⟨x, t⟩ := p
  dsimp only at *
  by_cases ht : t = 1
  · subst ht
    go_enter Tryz.func253, Tryz.ntmps253
    go_wp2_with (go_at_call 267; refine (stAt b g _ _ _ _ i _ HR.out hi).mono ?_; rintro e w' ⟨rfl, rfl⟩)
    ((first | refine wp_region_gen2 (by kernel_rfl) (by kernel_rfl) ?_ | refine wp_region_gen (by kernel_rfl) (by kernel_rfl) ?_); (repeat' ((first | refine gLex_val0 rfl (by kernel_rfl) (fun K hK => ?_) | refine gLex_undef rfl rfl rfl (by kernel_rfl) (fun K hK => ?_) | (refine gLex_ask rfl rfl rfl ?_; first | (apply gAsk_yes; kernel_rfl; intro K hK) | ((first | apply gAsk_no1 | apply gAsk_no2); kernel_rfl; intro K hK) | (apply gAsk_part; kernel_rfl; all_goals (intro h K hK; (try simp only [Bool.not_true] at h); (try simp only [Bool.not_false] at h); (try simp only [decide_eq_true_eq] at h); (try simp only [decide_eq_false_iff_not] at h); try (exfalso; first | contradiction | omega))))) <;> (go_simp; (try (simp only [↓IntWalk.iteOmega]; try go_simp)); (try simp (disch := omega) only [IntWalk.i64_in]); (try simp (disch := omega) only [IntWalk.u64_in]); refine hK _ ?_; clear hK K))); all_goals ((apply gLex_end); intro y))
    go_wp2_with fail
    go_ret2
    exact ⟨rfl, GG⟩
  · have hb : ((t : Int) == 1) = false := beq_eq_false_iff_ne.2 (by omega)
    have hb2 : ((t : Int) != 1) = true := by simp [bne, hb]
    have HT := hide ht
    clear ht
    go_enter Tryz.func253, Tryz.ntmps253
    go_wp2_with (go_at_call 267; refine (stAt b g _ _ _ _ i _ HR.out hi).mono ?_; rintro e w' ⟨rfl, rfl⟩)
    ((first | refine wp_region_gen2 (by kernel_rfl) (by kernel_rfl) ?_ | refine wp_region_gen (by kernel_rfl) (by kernel_rfl) ?_); (repeat' ((first | refine gLex_val0 rfl (by kernel_rfl) (fun K hK => ?_) | refine gLex_undef rfl rfl rfl (by kernel_rfl) (fun K hK => ?_) | (refine gLex_ask rfl rfl rfl ?_; first | (apply gAsk_yes; kernel_rfl; intro K hK) | ((first | apply gAsk_no1 | apply gAsk_no2); kernel_rfl; intro K hK) | (apply gAsk_part; kernel_rfl; all_goals (intro h K hK; (try simp only [Bool.not_true] at h); (try simp only [Bool.not_false] at h); (try simp only [decide_eq_true_eq] at h); (try simp only [decide_eq_false_iff_not] at h); try (exfalso; first | contradiction | omega))))) <;> (go_simp; (try (simp only [↓IntWalk.iteOmega]; try go_simp)); (try simp (disch := omega) only [IntWalk.i64_in]); (try simp (disch := omega) only [IntWalk.u64_in]); refine hK _ ?_; clear hK K))); all_goals ((apply gLex_end); intro y))
    go_wp2_with fail
    go_ret2
    refine ⟨?_, GG⟩
    simp
theorem StL.put {w W : World} {b g : Nat} {L : List (Nat × Nat)} {m : Int} (h : StL w b g L m) (hg : Grows w W) (i v : Nat) (hi : i < L.length) (m' : Int) :
    StL ((W.setCell ⟨g, i * 2, none⟩ (.int .u64 (v : Int))).setCell ⟨g, i * 2 + 1, none⟩ (.int .u64 1)) b g (L.set i (v, 1)) m ∧ StL (((W.setCell ⟨b, 2, none⟩ (.int .i64 m')).setCell ⟨g, i * 2, none⟩ (.int .u64 (v : Int))).setCell ⟨g, i * 2 + 1, none⟩ (.int .u64 1)) b g (L.set i (v, 1)) m' := by
  have hne := h.ne
  have e := scs_set L i (v, 1) hi
  have hl : (L.set i (v, 1)).length = L.length := List.length_set
  constructor
  · refine ⟨?_, ?_⟩
    · rw [hl]; exact ((h.row.grow hg).other hne _).other hne _
    · rw [hl, ← e]; exact ((h.cells.grow hg).set _ _).set _ _
  · refine ⟨?_, ?_⟩
    · rw [hl]; exact (((h.row.grow hg).set 2 _).other hne _).other hne _
    · rw [hl, ← e]; exact (((h.cells.grow hg).other (Ne.symm hne) _).set _ _).set _ _
set_option maxHeartbeats 2000000 in
theorem stPut (b g : Nat) (L : List (Nat × Nat)) (m : Int) (i v : Nat) (w : World) (h : StL w b g L m) (hi : i < L.length) :
    Calls Tryz.prog 254 #[.pointer (some ⟨b, 0, none⟩), .int .i64 (i : Int), .int .u64 (v : Int)] w fun e w' => e = .returned (.bool true) ∧ (∃ m', StL w' b g (L.set i (v, 1)) m') ∧ Touch (fun k => k = b ∨ k = g) w w' := by
  have m0 := h.c0 hi
  have m1 := h.c1 hi
  have HR := hide h.row
  have HH := hide h
  have hr := h.row
  have hne := h.ne
  clear h
  have HNE := hide hne
  generalize hp : gp L i = p at *
  obtain ⟨x, t⟩ := p
  dsimp only at *
  clear hp hne
  by_cases ht : t = 1
  · subst ht
    go_enter Tryz.func254, Tryz.ntmps254
    go_wp2_with (go_at_call 267; refine (stAt b g _ _ _ _ i _ HR.out hi).mono ?_; rintro e w' ⟨rfl, rfl⟩)
    ((first | refine wp_region_gen2 (by kernel_rfl) (by kernel_rfl) ?_ | refine wp_region_gen (by kernel_rfl) (by kernel_rfl) ?_); (repeat' ((first | refine gLex_val0 rfl (by kernel_rfl) (fun K hK => ?_) | refine gLex_undef rfl rfl rfl (by kernel_rfl) (fun K hK => ?_) | (refine gLex_ask rfl rfl rfl ?_; first | (apply gAsk_yes; kernel_rfl; intro K hK) | ((first | apply gAsk_no1 | apply gAsk_no2); kernel_rfl; intro K hK) | (apply gAsk_part; kernel_rfl; all_goals (intro h K hK; (try simp only [Bool.not_true] at h); (try simp only [Bool.not_false] at h); (try simp only [decide_eq_true_eq] at h); (try simp only [decide_eq_false_iff_not] at h); try (exfalso; first | contradiction | omega))))) <;> (go_simp; (try (simp only [↓IntWalk.iteOmega]; try go_simp)); (try simp (disch := omega) only [IntWalk.i64_in]); (try simp (disch := omega) only [IntWalk.u64_in]); refine hK _ ?_; clear hK K))); all_goals ((apply gLex_end); intro y))
    go_wp2_with fail
    have hgy : Grows w y.now := GG
    go_ret
    exact ⟨rfl, ⟨m, (HH.out.put hgy i v hi 0).1⟩, ((hgy.touch _).set (.inl (.inr rfl)) _).set (.inl (.inr rfl)) _⟩
  · have hb : ((t : Int) == 1) = false := beq_eq_false_iff_ne.2 (by omega)
    have hb2 : ((t : Int) != 1) = true := by simp [bne, hb]
    clear ht
    go_enter Tryz.func254, Tryz.ntmps254
    go_wp2_with (go_at_call 267; refine (stAt b g _ _ _ _ i _ HR.out hi).mono ?_; rintro e w' ⟨rfl, rfl⟩)
    ((first | refine wp_region_gen2 (by kernel_rfl) (by kernel_rfl) ?_ | refine wp_region_gen (by kernel_rfl) (by kernel_rfl) ?_); (repeat' ((first | refine gLex_val0 rfl (by kernel_rfl) (fun K hK => ?_) | refine gLex_undef rfl rfl rfl (by kernel_rfl) (fun K hK => ?_) | (refine gLex_ask rfl rfl rfl ?_; first | (apply gAsk_yes; kernel_rfl; intro K hK) | ((first | apply gAsk_no1 | apply gAsk_no2); kernel_rfl; intro K hK) | (apply gAsk_part; kernel_rfl; all_goals (intro h K hK; (try simp only [Bool.not_true] at h); (try simp only [Bool.not_false] at h); (try simp only [decide_eq_true_eq] at h); (try simp only [decide_eq_false_iff_not] at h); try (exfalso; first | contradiction | omega))))) <;> (go_simp; (try (simp only [↓IntWalk.iteOmega]; try go_simp)); (try simp (disch := omega) only [IntWalk.i64_in]); (try simp (disch := omega) only [IntWalk.u64_in]); refine hK _ ?_; clear hK K))); all_goals ((apply gLex_end); intro y))
    go_upto_region 6 with fail
    have hgy : Grows w y.now := GG
    have n0 : Mine (y.now.setCell ⟨b, 2, none⟩ (.int .i64 (wrap64 (m + 1)))) ⟨g, i * 2, none⟩ _ := Mine.set_other inferInstance _ (by intro e; injection e with e; exact HNE.out e.symm)
    have n1 : Mine (y.now.setCell ⟨b, 2, none⟩ (.int .i64 (wrap64 (m + 1)))) ⟨g, i * 2 + 1, none⟩ _ := Mine.set_other inferInstance _ (by intro e; injection e with e; exact HNE.out e.symm)
    have n2 : Mine (y.now.setCell ⟨b, 2, none⟩ (.int .i64 (wrap64 (m + 1)))) ⟨b, 1, none⟩ (.int .u64 1) := Mine.set_other inferInstance _ (by intro e; injection e with _ e; cases e)
    go_wp2_with fail
    go_ret
    exact ⟨rfl, ⟨_, (HH.out.put hgy i v hi _).2⟩, (((hgy.touch _).set (.inl (.inl rfl)) _).set (.inl (.inr rfl)) _).set (.inl (.inr rfl)) _⟩
def stD (L : List (Nat × Nat)) (i : Nat) : Option Nat := if (gp L i).2 = 1 then some (gp L i).1 else none
def lessB (o : Option Nat) (v : Nat) : Bool := match o with | none => true | some u => decide (v < u)
def GiveLeast (w : World) (b g : Nat) (L : List (Nat × Nat)) (i v : Nat) (r : Bool) (e : Ending) (w' : World) : Prop :=
  e = .returned (.bool r) ∧ (∃ m', StL w' b g (if r then L.set i (v, 1) else L) m') ∧ Touch (fun k => k = b ∨ k = g) w w'
set_option maxHeartbeats 2000000 in
theorem stLeast (b g : Nat) (L : List (Nat × Nat)) (m : Int) (i v : Nat) (w : World) (h : StL w b g L m) (hi : i < L.length) :
    Calls Tryz.prog 235 #[.pointer (some ⟨b, 0, none⟩), .int .i64 (i : Int), .int .u64 (v : Int)] w (GiveLeast w b g L i v (lessB (stD L i) v)) := by
  have HH := hide h
  have CG := hide (fun (W : World) (hg : Grows w W) => stGet b g L m i W (h.grow hg) hi)
  have CP := hide (fun (W : World) (hg : Grows w W) => stPut b g L m i v W (h.grow hg) hi)
  clear h
  unfold stD
  generalize hp : gp L i = p at *
  obtain ⟨x, t⟩ := p
  dsimp only at *
  clear hp
  by_cases ht : t = 1
  · subst ht
    by_cases hv : v < x
    · have hd : decide ((x : Int) ≤ (v : Int)) = false := decide_eq_false (by omega)
      have hd1 : decide (x ≤ v) = false := decide_eq_false (by omega)
      have HV : lessB (if (1 : Nat) = 1 then some x else none) v = true := decide_eq_true hv
      rw [HV]
      clear hv HV
      go_enter Tryz.func235, Tryz.ntmps235
      go_wp2_with (first
        | (go_at_call 253; refine (CG.out _ GG).mono ?_; rintro e w' ⟨rfl, hg⟩; obtain ⟨y, rfl⟩ := hg.later; clear hg)
        | (go_at_call 254; refine (CP.out _ GG).mono ?_; rintro e w' ⟨rfl, hs, ht⟩; have HS := hide hs; have HT := hide ht; clear hs ht))
      have hgy : Grows w y.now := GG
      go_ret
      exact ⟨rfl, HS.out, (hgy.touch _).trans HT.out⟩
    · have hd : decide ((x : Int) ≤ (v : Int)) = true := decide_eq_true (by omega)
      have hd1 : decide (x ≤ v) = true := decide_eq_true (by omega)
      have HV : lessB (if (1 : Nat) = 1 then some x else none) v = false := decide_eq_false hv
      rw [HV]
      clear hv HV
      go_enter Tryz.func235, Tryz.ntmps235
      go_wp2_with (first
        | (go_at_call 253; refine (CG.out _ GG).mono ?_; rintro e w' ⟨rfl, hg⟩; obtain ⟨y, rfl⟩ := hg.later; clear hg))
      have hgy : Grows w y.now := GG
      go_ret
      exact ⟨rfl, ⟨m, HH.out.grow hgy⟩, hgy.touch _⟩
  · rw [if_neg ht]
    have HV : lessB none v = true := rfl
    rw [HV]
    rw [if_neg ht, decide_eq_false ht] at CG
    clear ht HV
    go_enter Tryz.func235, Tryz.ntmps235
    go_wp2_with (first
      | (go_at_call 253; refine (CG.out _ GG).mono ?_; rintro e w' ⟨rfl, hg⟩; obtain ⟨y, rfl⟩ := hg.later; clear hg)
      | (go_at_call 254; refine (CP.out _ GG).mono ?_; rintro e w' ⟨rfl, hs, ht⟩; have HS := hide hs; have HT := hide ht; clear hs ht))
    have hgy : Grows w y.now := GG
    go_ret
    exact ⟨rfl, HS.out, (hgy.touch _).trans HT.out⟩
end Go.Proofs.YtgplpgldhoelcaaGreat

namespace Go.Proofs.YtgplpgldhoelcaaGreat
abbrev Itm := Nat × Nat
def gi2 (L : List Itm) (i : Nat) : Itm := L.getD i (0, 0)
def gz (T : List Int) (v : Nat) : Int := T.getD v 0
def ahead (a b : Itm) : Bool := decide (a.2 < b.2 ∨ a.2 = b.2 ∧ a.1 < b.1)
structure HS where
  L : List Itm
  T : List Int
def HS.lay (s : HS) (i : Nat) (x : Itm) : HS := ⟨s.L.set i x, s.T.set x.1 (i : Int)⟩
theorem HS.lay_len (s : HS) (i : Nat) (x : Itm) : (s.lay i x).L.length = s.L.length ∧ (s.lay i x).T.length = s.T.length := by simp [HS.lay]
def HS.rise (s : HS) (i : Nat) (x : Itm) : HS :=
  if _h : 0 < i ∧ ahead x (gi2 s.L ((i - 1) / 2)) = true then HS.rise (s.lay i (gi2 s.L ((i - 1) / 2))) ((i - 1) / 2) x else s.lay i x
termination_by i
decreasing_by omega
def HS.low (s : HS) (i : Nat) : Nat := if 2 * i + 1 + 1 < s.L.length ∧ ahead (gi2 s.L (2 * i + 1 + 1)) (gi2 s.L (2 * i + 1)) = true then 2 * i + 1 + 1 else 2 * i + 1
theorem HS.low_gt (s : HS) (i : Nat) : i < s.low i := by unfold HS.low; split <;> omega
def HS.sink (s : HS) (i : Nat) (x : Itm) : HS :=
  if _h : s.low i < s.L.length ∧ ahead (gi2 s.L (s.low i)) x = true then HS.sink (s.lay i (gi2 s.L (s.low i))) (s.low i) x else s.lay i x
termination_by s.L.length - i
decreasing_by
  have := HS.low_gt s i
  have := (HS.lay_len s i (gi2 s.L (s.low i))).1
  omega
def HS.put (s : HS) (v key : Nat) : HS × Bool :=
  if gz s.T v = -1 then (HS.rise ⟨s.L ++ [(v, key)], s.T⟩ s.L.length (v, key), true)
  else if (gi2 s.L (gz s.T v).toNat).2 ≤ key then (s, false) else (s.rise (gz s.T v).toNat (v, key), true)
def HS.drop (s : HS) (v : Nat) : HS :=
  let i := (gz s.T v).toNat
  let last := s.L.length - 1
  let x := gi2 s.L last
  let s1 : HS := ⟨s.L.take last, s.T.set v (-1)⟩
  if i = last then s1 else
    let s2 := s1.sink i x
    if gz s2.T x.1 = (i : Int) then s2.rise i x else s2
def HS.In (s : HS) (N : Nat) : Prop := s.T.length = N ∧ ∀ i, i < s.L.length → (gi2 s.L i).1 < N
theorem gi2_set (L : List Itm) (i j : Nat) (x : Itm) (hi : i < L.length) : gi2 (L.set i x) j = if j = i then x else gi2 L j := by
  unfold gi2
  by_cases h : j = i
  · subst h; simp [hi]
  · simp [h, Ne.symm h]
theorem HS.In.lay {s : HS} {N : Nat} (h : s.In N) (i : Nat) (x : Itm) (hx : x.1 < N) : (s.lay i x).In N := by
  refine ⟨by rw [(HS.lay_len s i x).2]; exact h.1, fun j hj => ?_⟩
  rw [(HS.lay_len s i x).1] at hj
  unfold HS.lay
  by_cases hi : i < s.L.length
  · rw [gi2_set _ _ _ _ hi]
    split
    · exact hx
    · exact h.2 j hj
  · have : s.L.set i x = s.L := List.set_eq_of_length_le (by omega)
    simp only [this]
    exact h.2 j hj
theorem HS.rise_in {s : HS} {N : Nat} (h : s.In N) (i : Nat) (x : Itm) (hx : x.1 < N) (hi : i < s.L.length) : (s.rise i x).In N := by
  induction i using Nat.strongRecOn generalizing s with
  | _ i ih =>
    rw [HS.rise]
    split
    · rename_i hc
      exact ih ((i - 1) / 2) (by omega) (h.lay i _ (h.2 _ (by omega))) (by rw [(HS.lay_len _ _ _).1]; omega)
    · exact h.lay i x hx
end Go.Proofs.YtgplpgldhoelcaaGreat

namespace Go.Proofs.YtgplpgldhoelcaaGreat
open Go Go.RowKit

def Yields' {α : Type} (J : List α → (Nat → Prop) → World → Prop) : Prop :=
  ∀ pre M W M' W', J pre M W → Touch M W W' → (∀ k, M' k → (M k ∨ W.heap.size ≤ k) ∧ k < W'.heap.size) → J pre M' W'

def Gives {α : Type} (P : Program) (g : Nat) (lb : Array Value) (encs : α → Array Value) (B M0 : Nat → Prop) (xs : List α) (w : World) : Prop :=
  ∀ (l : Nat) (J Jx : List α → (Nat → Prop) → World → Prop) (W : World), Keeps B M0 w W → Yields' J → Yields' Jx →
    (∀ pre x rest M W1, xs = pre ++ x :: rest → J pre M W1 → YieldAt Fence.wide 0 P l (encs x) W1 fun e W' =>
      (e = .returned (.bool true) ∧ J (pre ++ [x]) M W' ∧ Keeps B M W1 W') ∨ (e = .returned (.bool false) ∧ Jx (pre ++ [x]) M W' ∧ Keeps B M W1 W')) →
    J [] M0 W →
    CallsIn Fence.wide 0 P g (#[.func (.yield l) #[] #[]] ++ lb) W fun e W' => (∃ v, e = .returned v) ∧ ((∃ M, J xs M W') ∨ (∃ pre x rest M, xs = pre ++ x :: rest ∧ Jx (pre ++ [x]) M W'))

def roundEnd {α : Type} (B M : Nat → Prop) (I : List α → (Nat → Prop) → World → Prop) (Ix : Code → List α → (Nat → Prop) → World → Prop) (xs : List α) (W : World) : Exit → Act → World → Prop
  | .normal, _, W' => Keeps B M W W' ∧ I xs M W'
  | .ret, _, W' => Keeps B M W W' ∧ Ix .ret xs M W'
  | .exit id, _, W' => Keeps B M W W' ∧ Ix (.exit id) xs M W'
  | .goto t, _, W' => Keeps B M W W' ∧ Ix (.goto t) xs M W'
  | .panic _, _, _ => False
  | .outgrown, _, _ => False

def With2 (M : Nat → Prop) (d l : Nat) (k : Nat) : Prop := M k ∨ k = d ∨ k = l
def Book (M : Nat → Prop) (D l : Nat) (o : Obj) (W : World) : Prop :=
  W.heap[l]? = some o ∧ W.heap[D]? = some (.deferred (some [])) ∧ ¬ M l ∧ ¬ M D ∧ D ≠ l ∧ ∀ k, M k → k < W.heap.size

theorem Yields'.book {α : Type} {I : List α → (Nat → Prop) → World → Prop} (hI : Yields' I) (D l : Nat) (o : Obj) : Yields' (fun pre M W => I pre (With2 M D l) W ∧ Book M D l o W) := by
  rintro pre M W M' W' ⟨h1, h2, h3, h4, h5, h6, h7⟩ ht hM
  have l2 := (Array.getElem?_eq_some_iff.1 h2).1
  have l3 := (Array.getElem?_eq_some_iff.1 h3).1
  have hs := ht.size
  refine ⟨hI pre (With2 M D l) W (With2 M' D l) W' h1 (ht.mono fun k h => .inl h) (fun k hk => ?_), ht.at h4 h2, ht.at h5 h3, fun e => ?_, fun e => ?_, h6, fun k hk => (hM k hk).2⟩
  · rcases hk with hk | hk
    · obtain ⟨h6 | h6, h7⟩ := hM k hk
      · exact ⟨.inl (.inl h6), h7⟩
      · exact ⟨.inr h6, h7⟩
    · refine ⟨.inl (.inr hk), ?_⟩
      rcases hk with rfl | rfl <;> omega
  · rcases (hM _ e).1 with h | h
    · exact h4 h
    · omega
  · rcases (hM _ e).1 with h | h
    · exact h5 h
    · omega
theorem Yields'.ex {α β : Type} {J : β → List α → (Nat → Prop) → World → Prop} (h : ∀ c, Yields' (J c)) : Yields' (fun pre M W => ∃ c, J c pre M W) :=
  fun pre M W M' W' ⟨c, h1⟩ ht hM => ⟨c, h c pre M W M' W' h1 ht hM⟩
theorem Yields'.and {α : Type} {I J : List α → (Nat → Prop) → World → Prop} (h : Yields' I) (k : Yields' J) : Yields' (fun pre M W => I pre M W ∧ J pre M W) :=
  fun pre M W M' W' ⟨h1, h2⟩ ht hM => ⟨h pre M W M' W' h1 ht hM, k pre M W M' W' h2 ht hM⟩
theorem Book.turn {M : Nat → Prop} {D l : Nat} {o : Obj} {W : World} (h : Book M D l o W) (o' : Obj) : Book M D l o' (W.putObj l o') := by
  obtain ⟨h2, h3, h4, h5, h6, h7⟩ := h
  exact ⟨World.putObj_heap_same (Array.getElem?_eq_some_iff.1 h2).1, (World.putObj_heap_other h6).trans h3, h4, h5, h6, fun k hk => by simp; exact h7 k hk⟩
theorem Book.inv {α : Type} {M : Nat → Prop} {D l : Nat} {o : Obj} {W : World} (h : Book M D l o W) {I : List α → (Nat → Prop) → World → Prop} (hI : Yields' I) {pre : List α} (hi : I pre (With2 M D l) W) (o' : Obj) : I pre (With2 M D l) (W.putObj l o') := by
  obtain ⟨h2, h3, h4, h5, h6, h7⟩ := h
  have l2 := (Array.getElem?_eq_some_iff.1 h2).1
  have l3 := (Array.getElem?_eq_some_iff.1 h3).1
  refine hI pre _ W _ _ hi ((Touch.refl _ W).put (.inl (.inr (.inr rfl))) o') fun k hk => ⟨.inl hk, ?_⟩
  rw [World.putObj_size]
  rcases hk with hk | rfl | rfl
  · exact h7 k hk
  · exact l3
  · exact l2
theorem Book.keeps {M : Nat → Prop} {D l : Nat} {B : Nat → Prop} {o : Obj} {W W' : World} (h : Book M D l o W) (hk : Keeps B (With2 M D l) W W') : Book M D l o W' := by
  obtain ⟨h2, h3, h4, h5, h6, h7⟩ := h
  exact ⟨hk.at (.inr (.inr (.inr rfl))) h2, hk.at (.inr (.inr (.inl rfl))) h3, h4, h5, h6, fun k hk' => Nat.lt_of_lt_of_le (h7 k hk') hk.size⟩

section
variable {α : Type} {P : Program} {g : Operand} {ps : Array Tmp} {assign body : Code} {Q : Exit → Act → World → Prop} {a : Act} {w w0 : World}

theorem wp_rangeG {gf : Nat} {lb : Array Value} (hg : a.eval g = .func (.func gf) #[] lb) (eg : ∀ args w, (callFunc gf args).run P w = .ok (.enter gf args) w)
    {encs : α → Array Value} {B M0 : Nat → Prop} {xs : List α} (hseq : Gives P gf lb encs B M0 xs w0) (hw0 : Keeps B M0 w0 w) (hB : ∀ k, B k → k < w.heap.size) (hM0 : ∀ k, M0 k → k < w.heap.size)
    (hps : ∀ x, (encs x).size = ps.size) (I : List α → (Nat → Prop) → World → Prop) (Ix : Code → List α → (Nat → Prop) → World → Prop) (hI : Yields' I) (hIx : ∀ c, Yields' (Ix c))
    (h0 : I [] M0 w) (Ib : α → Act → List α → (Nat → Prop) → World → Prop) (hIb : ∀ x a, Yields' (Ib x a))
    (hassign : ∀ (l : Nat) (pre : List α) (x : α) (rest : List α) (M : Nat → Prop) (W : World), xs = pre ++ x :: rest → I pre M W →
      assign.wpIn (Fence.wide.inRound l) 0 P (Exit.then (fun a' W' => Ib x a' pre M W' ∧ Keeps B M W W') (fun _ _ _ => False)) { tmps := (ps.zip (encs x)).foldl (fun t (p, v) => t.setIfInBounds p v) a.tmps, defers := [] } W)
    (hbody : ∀ (l : Nat) (pre : List α) (x : α) (rest : List α) (M : Nat → Prop) (a' : Act) (W : World), xs = pre ++ x :: rest → w.heap.size ≤ l → M l → (∃ r, W.heap[l]? = some (.loop r)) → Ib x a' pre M W →
      body.wpIn (Fence.wide.inRound l) 0 P (roundEnd B M I Ix (pre ++ [x]) W) a' W)
    (hdone : ∀ (D : Nat) (M : Nat → Prop) (W : World), w.heap.size ≤ D → M D → I xs M W → W.heap[D]? = some (.deferred (some [])) → Q .normal { a with defers := { target := .collected D, args := #[] } :: a.defers } W)
    (hstop : ∀ (D : Nat) (c : Code) (pre : List α) (x : α) (rest : List α) (M : Nat → Prop) (W : World), w.heap.size ≤ D → M D → xs = pre ++ x :: rest → Ix c (pre ++ [x]) M W → W.heap[D]? = some (.deferred (some [])) →
      c.wpIn Fence.wide 0 P Q { a with defers := { target := .collected D, args := #[] } :: a.defers } W) :
    (Code.rangeFunc g ps assign body).wpIn Fence.wide 0 P Q a w := by
  refine wpIn_rangeFunc fun fn hfn => ?_
  obtain ⟨rec, hrec⟩ : ∃ rec : LoopState → Option Code → Loop, rec = fun st pe => { state := st, pending := pe, fn, tmps := a.tmps, params := ps, assign, body, defers := w.heap.size } := ⟨_, rfl⟩
  obtain ⟨W1, hW1⟩ : ∃ W1, (w.alloc (.deferred (some []))).alloc (.loop (rec .ready none)) = W1 := ⟨_, rfl⟩
  have hs1 : W1.heap.size = w.heap.size + 1 + 1 := by rw [← hW1]; simp
  have hg1 : Grows w W1 := by rw [← hW1]; exact ((Grows.refl w).new _).new _
  have hL1 : W1.heap[w.heap.size + 1]? = some (.loop (rec .ready none)) := by
    have := World.alloc_heap_new (w.alloc (.deferred (some []))) (.loop (rec .ready none))
    rw [World.size_alloc] at this
    rw [← hW1]; exact this
  have hK1 : W1.heap[w.heap.size]? = some (.deferred (some [])) := by
    rw [← hW1]; exact (Below.heap_alloc _ _ _ (by simp)).trans (World.alloc_heap_new w _)
  have hB1 : Book M0 w.heap.size (w.heap.size + 1) (.loop (rec .ready none)) W1 :=
    ⟨hL1, hK1, fun e => by have := hM0 _ e; omega, fun e => by have := hM0 _ e; omega, by omega, fun k hk => by have := hM0 k hk; omega⟩
  have hI1 : I [] (With2 M0 w.heap.size (w.heap.size + 1)) W1 := by
    refine hI [] M0 w _ W1 h0 (hg1.touch _) fun k hk => ?_
    rcases hk with hk | rfl | rfl
    · exact ⟨.inl hk, by have := hM0 k hk; omega⟩
    · exact ⟨.inr (Nat.le_refl _), by omega⟩
    · exact ⟨.inr (by omega), by omega⟩
  refine ⟨w.heap.size + 1, [{ target := .collected w.heap.size, args := #[] }], W1, { target := .fn (.func gf) lb, args := #[.func (.yield (w.heap.size + 1)) #[] #[]] }, W1, gf,
    #[.func (.yield (w.heap.size + 1)) #[] #[]] ++ lb, W1, ?_, ?_, fun _ _ => trivial, ?_, fun h => by simp [Fence.wide] at h, ?_⟩
  · rw [← hW1, hrec]; exact run_enterLoop_outer _ _ _ _ _
  · simp only [resolve, hg]
    simp [go_sem]
  · simp [invoke, go_sem, eg]
  · obtain ⟨D, hD⟩ : ∃ D, w.heap.size = D := ⟨_, rfl⟩
    obtain ⟨l, hl⟩ : ∃ l, D + 1 = l := ⟨_, rfl⟩
    rw [hD, hl] at hB1 hI1
    rw [hD, hl]
    have hnl : ¬ B l := fun e => by have := hB l e; omega
    refine (hseq l (fun pre M W => I pre (With2 M D l) W ∧ Book M D l (.loop (rec .ready none)) W) (fun pre M W => ∃ c, Ix c pre (With2 M D l) W ∧ Book M D l (.loop (rec .done (some c))) W)
      W1 (hw0.trans (hg1.touch _)) (hI.book _ _ _) (Yields'.ex fun c => (hIx c).book _ _ _) ?_ ⟨hI1, hB1⟩).mono ?_
    · rintro pre x rest M W hx ⟨hi, hb⟩
      have hy := run_yield (P := P) (args := encs x) hb.1 (by rw [hrec]; exact hps x)
      rw [hrec] at hy
      refine ⟨fn, _, assign, body, hy, roundIn_of_wpIn hfn ?_⟩
      clear hy
      refine wpIn_mono (hassign l pre x rest (With2 M D l) W hx hi) ?_
      rintro e a2 W2 hp
      cases e <;> first | exact hp.elim | skip
      obtain ⟨hib, hk2⟩ := hp
      have hb2 := hb.keeps hk2
      refine ⟨_, run_beginRound hb2.1 (by rw [hrec]), ?_⟩
      have hb3 := hb2.turn (.loop { rec .ready none with state := .busy })
      have hi3 := hb2.inv (hIb x a2) hib (.loop { rec .ready none with state := .busy })
      refine wpIn_mono (hbody l pre x rest (With2 M D l) a2 _ hx (by omega) (.inr (.inr rfl)) ⟨_, hb3.1⟩ hi3) ?_
      have hkA : Keeps B M W (W2.putObj l (.loop { rec .ready none with state := .busy })) :=
        Touch.put (hk2.mono fun k h => .inl h) (.inl (fun e => e.elim hnl hb2.2.2.1)) _
      have fin : ∀ (jump : Option Code) (W4 : World), Keeps B (With2 M D l) (W2.putObj l (.loop { rec .ready none with state := .busy })) W4 →
          (Instr.endRound l jump).run P W4 = .ok (.bool jump.isNone) (W4.putObj l (.loop (rec (if jump.isNone then .ready else .done) jump))) ∧ Book M D l (.loop { rec .ready none with state := .busy }) W4 := fun jump W4 hk4 => by
        have hb4 := hb3.keeps hk4
        have := run_endRound (P := P) jump hb4.1
        rw [hrec] at this ⊢
        exact ⟨this, by rw [hrec] at hb4; exact hb4⟩
      rintro e a3 W4 hp
      cases e with
      | normal =>
        obtain ⟨hk4, hi4⟩ := hp
        obtain ⟨hr, hb4⟩ := fin none W4 hk4
        exact ⟨_, _, hr, .inl ⟨rfl, ⟨hb4.inv hI hi4 _, hb4.turn _⟩, Touch.put (hkA.trans (hk4.mono fun k h => .inl h)) (.inl (fun e => e.elim hnl hb4.2.2.1)) _⟩⟩
      | ret =>
        obtain ⟨hk4, hi4⟩ := hp
        obtain ⟨hr, hb4⟩ := fin (some .ret) W4 hk4
        exact ⟨_, _, hr, .inr ⟨rfl, ⟨.ret, hb4.inv (hIx _) hi4 _, hb4.turn _⟩, Touch.put (hkA.trans (hk4.mono fun k h => .inl h)) (.inl (fun e => e.elim hnl hb4.2.2.1)) _⟩⟩
      | exit id =>
        obtain ⟨hk4, hi4⟩ := hp
        obtain ⟨hr, hb4⟩ := fin (some (.exit id)) W4 hk4
        exact ⟨_, _, hr, .inr ⟨rfl, ⟨.exit id, hb4.inv (hIx _) hi4 _, hb4.turn _⟩, Touch.put (hkA.trans (hk4.mono fun k h => .inl h)) (.inl (fun e => e.elim hnl hb4.2.2.1)) _⟩⟩
      | goto t =>
        obtain ⟨hk4, hi4⟩ := hp
        obtain ⟨hr, hb4⟩ := fin (some (.goto t)) W4 hk4
        exact ⟨_, _, hr, .inr ⟨rfl, ⟨.goto t, hb4.inv (hIx _) hi4 _, hb4.turn _⟩, Touch.put (hkA.trans (hk4.mono fun k h => .inl h)) (.inl (fun e => e.elim hnl hb4.2.2.1)) _⟩⟩
      | panic ch => exact hp.elim
      | outgrown => exact hp.elim
    · rintro e W2 ⟨⟨v, rfl⟩, (⟨M, hi, hb⟩ | ⟨pre, x, rest, M, hx, c, hi, hb⟩)⟩
      · have he := run_endLoop (P := P) hb.1 (by rw [hrec]; simp)
        refine ⟨_, _, he, ?_⟩
        rw [show (rec .ready none).pending = none by rw [hrec]]
        exact hdone D _ _ (by omega) (.inr (.inl rfl)) (hb.inv hI hi _) (hb.turn _).2.1
      · have he := run_endLoop (P := P) hb.1 (by rw [hrec]; simp)
        refine ⟨_, _, he, ?_⟩
        rw [show (rec .done (some c)).pending = some c by rw [hrec]]
        exact hstop D c pre x rest _ _ (by omega) (.inr (.inl rfl)) hx (hb.inv (hIx c) hi _) (hb.turn _).2.1
end
end Go.Proofs.YtgplpgldhoelcaaGreat

namespace Go.Proofs.YtgplpgldhoelcaaGreat
open Go Go.RowKit

theorem least {p : Nat → Prop} (h : ∃ m, p m) : ∃ m, p m ∧ ∀ k, p k → m ≤ k := by
  obtain ⟨m, hm⟩ := h
  induction m using Nat.strongRecOn with
  | _ m ih =>
    by_cases hk : ∃ k, k < m ∧ p k
    · obtain ⟨k, h1, h2⟩ := hk
      exact ih k h1 h2
    · exact ⟨m, hm, fun k hp => Nat.le_of_not_lt fun h => hk ⟨k, h, hp⟩⟩
theorem least_fn (Inv : Nat → Act → World → Prop) : ∃ μ : Act → World → Nat, ∀ a w, (∃ m, Inv m a w) → Inv (μ a w) a w ∧ ∀ k, Inv k a w → μ a w ≤ k := by
  have h : ∀ a w, ∃ m, (∃ m, Inv m a w) → Inv m a w ∧ ∀ k, Inv k a w → m ≤ k := fun a w => by
    by_cases he : ∃ m, Inv m a w
    · obtain ⟨m, hm⟩ := least he
      exact ⟨m, fun _ => hm⟩
    · exact ⟨0, fun h => absurd h he⟩
  exact ⟨fun a w => Classical.choose (h a w), fun a w => Classical.choose_spec (h a w)⟩
theorem wp_loop_m {P : Program} {c : Code} {Q : Exit → Act → World → Prop} {a : Act} {w : World} (Inv : Nat → Act → World → Prop) (h0 : ∃ m, Inv m a w)
    (hr : ∀ m a w, Inv m a w → c.wp P (Exit.then (fun a' w' => ∃ m', m' < m ∧ Inv m' a' w') Q) a w) : (Code.loop c).wp P Q a w := by
  obtain ⟨μ, hμ⟩ := least_fn Inv
  refine wp_loop (fun a w => ∃ m, Inv m a w) μ h0 fun a w h => ?_
  refine wp_mono (hr _ a w (hμ a w h).1) fun e a' w' hq => ?_
  cases e <;> first | exact hq | skip
  obtain ⟨m', h1, h2⟩ := hq
  exact ⟨⟨m', h2⟩, Nat.lt_of_le_of_lt ((hμ a' w' ⟨m', h2⟩).2 m' h2) h1⟩

def marks (Ds : List Nat) : List Deferred := Ds.map fun D => { target := .collected D, args := #[] }
def Marks (Ds : List Nat) (W : World) : Prop := Ds.Nodup ∧ ∀ D ∈ Ds, W.heap[D]? = some (.deferred (some []))
theorem Marks.nil (W : World) : Marks [] W := ⟨List.nodup_nil, fun D h => by cases h⟩
theorem Marks.touch {Ds : List Nat} {W W' : World} {S : Nat → Prop} (h : Marks Ds W) (ht : Touch S W W') (hs : ∀ D ∈ Ds, ¬ S D) : Marks Ds W' := ⟨h.1, fun D hD => ht.at (hs D hD) (h.2 D hD)⟩
theorem Marks.keeps {Ds : List Nat} {W W' : World} {B M : Nat → Prop} (h : Marks Ds W) (ht : Keeps B M W W') (hs : ∀ D ∈ Ds, M D) : Marks Ds W' := ⟨h.1, fun D hD => ht.at (.inr (hs D hD)) (h.2 D hD)⟩
theorem Marks.cons {Ds : List Nat} {W : World} {D : Nat} (h : Marks Ds W) (hD : W.heap[D]? = some (.deferred (some []))) (hn : D ∉ Ds) : Marks (D :: Ds) W :=
  ⟨List.nodup_cons.2 ⟨hn, h.1⟩, fun E hE => by
    rcases List.mem_cons.1 hE with rfl | hE
    · exact hD
    · exact h.2 E hE⟩
theorem marks_leave {F : Fence} {n : Nat} {P : Program} {fn : Func} {tmps : Array Value} {R : Ending → World → Prop} : ∀ (Ds : List Nat) (W : World), Marks Ds W →
    (∀ W', Touch (fun k => k ∈ Ds) W W' → ∃ v, (results fn tmps).run P W' = .ok v W' ∧ R (.returned v) W') → LeavesInM F n P fn tmps R (marks Ds) .returning W
  | [], W, _, h => h W (Touch.refl _ _)
  | D :: Ds, W, hM, h => by
    have hnd := List.nodup_cons.1 hM.1
    have hk := hM.2 D (by simp)
    refine ⟨by simp, .inl ⟨D, _, rfl, run_takeDeferred hk, ?_⟩⟩
    refine marks_leave Ds _ ⟨hnd.2, fun E hE => ?_⟩ fun W' ht => h W' ?_
    · rw [World.putObj_heap_other (fun e => by subst e; exact hnd.1 hE)]
      exact hM.2 E (by simp [hE])
    · exact ((Touch.refl _ W).put (.inl (by simp)) _).trans2 ht fun k hk => .inl (by simp [hk])
theorem marks_ret {n : Nat} {P : Program} {fn : Func} {R : Ending → World → Prop} {a : Act} {W : World} (Ds : List Nat) (hd : a.defers = marks Ds) (hM : Marks Ds W)
    (h : ∀ W', Touch (fun k => k ∈ Ds) W W' → ∃ v, (results fn a.tmps).run P W' = .ok v W' ∧ R (.returned v) W') : bodyPostM Fence.wide n P fn R .ret a W := by
  show LeavesInM _ _ _ _ _ _ a.defers _ _
  rw [hd]
  exact marks_leave Ds W hM h
theorem marks_end {n : Nat} {P : Program} {fn : Func} {R : Ending → World → Prop} {a : Act} {W : World} (Ds : List Nat) (hd : a.defers = marks Ds) (hM : Marks Ds W)
    (h : ∀ W', Touch (fun k => k ∈ Ds) W W' → ∃ v, (results fn a.tmps).run P W' = .ok v W' ∧ R (.returned v) W') : bodyPostM Fence.wide n P fn R .normal a W := by
  show LeavesInM _ _ _ _ _ _ a.defers _ _
  rw [hd]
  exact marks_leave Ds W hM h
theorem calls_of_marks {P : Program} {f : FuncId} {fn : Func} {c : Code} {args : Array Value} {w : World} {R : Ending → World → Prop} (hf : P.funcs[f]? = some fn) (hb : fn.body = some c)
    (h : c.wp P (bodyPostM Fence.wide 0 P fn R) { tmps := args ++ Array.replicate (fn.ntmps - args.size) undef, defers := [] } w) : Calls P f args w R :=
  callsIn_wide.1 (callsIn_of_wp_marks (n := 0) hf hb trivial (wpIn_wide.2 h) rfl)
end Go.Proofs.YtgplpgldhoelcaaGreat

namespace Go.Proofs.YtgplpgldhoelcaaGreat
open Go Go.RowKit
def itCells (p : Itm) : List Value := [.int .i64 (p.1 : Int), .int .u64 (p.2 : Int)]
def its (L : List Itm) : List Value := L.flatMap itCells
def itVal (p : Itm) : Value := .agg #[.int .i64 (p.1 : Int), .int .u64 (p.2 : Int)]
theorem its_len (L : List Itm) : (its L).length = L.length * 2 := flat_len itCells 2 (fun _ => rfl) L
theorem its_at (L : List Itm) (i j : Nat) (hi : i < L.length) (hj : j < 2) : (its L)[i * 2 + j]? = (itCells (gi2 L i))[j]? := flat_get itCells 2 (fun _ => rfl) (0, 0) L i j hi hj
theorem its_app (L : List Itm) (p : Itm) : its (L ++ [p]) = its L ++ itCells p := by simp [its]
theorem its_set (L : List Itm) (i : Nat) (p : Itm) (hi : i < L.length) : ((its L).set (i * 2) (.int .i64 (p.1 : Int))).set (i * 2 + 1) (.int .u64 (p.2 : Int)) = its (L.set i p) := by
  apply List.ext_getElem?
  intro k
  have hk : k = k / 2 * 2 + k % 2 := (Nat.div_add_mod' k 2).symm
  have hm : k % 2 < 2 := Nat.mod_lt _ (by omega)
  have hl := its_len L
  have hl2 := its_len (L.set i p)
  rw [List.length_set] at hl2
  rcases Nat.lt_or_ge (k / 2) L.length with hlt | hge
  · have h1 := its_at L (k / 2) (k % 2) hlt hm
    have h2 := its_at (L.set i p) (k / 2) (k % 2) (by simpa using hlt) hm
    rw [← hk] at h1 h2
    rw [h2, gi2_set _ _ _ _ hi]
    by_cases he : k / 2 = i
    · rw [if_pos he]
      rcases (by omega : k = i * 2 ∨ k = i * 2 + 1) with e | e
      · have e2 : k % 2 = 0 := by omega
        rw [List.getElem?_set_ne (by omega), e, List.getElem?_set_self (by omega)]
        rw [e] at e2
        rw [e2]; rfl
      · have e2 : k % 2 = 1 := by omega
        rw [e, List.getElem?_set_self (by simp; omega)]
        rw [e] at e2
        rw [e2]; rfl
    · rw [if_neg he, List.getElem?_set_ne (by omega), List.getElem?_set_ne (by omega), h1]
  · rw [List.getElem?_eq_none (by simp; omega), List.getElem?_eq_none (by omega)]
def HpAt (w : World) (S : Nat → Prop) (b : Nat) (s : HS) : Prop :=
  ∃ A c G, Arr w b 293 [.slice A s.L.length c, .slice (some ⟨G, 0, none⟩) s.T.length s.T.length] ∧ Own w 0 320 2 A s.L.length c (its s.L) ∧ Row1 w G 3 1 s.T.length s.T.length (s.T.map (.int .i64)) ∧ S b ∧ S G ∧ ∀ p, A = some p → S p.block
theorem Own.touch {w w' : World} {B n c size : Nat} {e : TypeId} {A : Option Addr} {xs : List Value} {S : Nat → Prop} (h : Own w B e size A n c xs) (ht : Touch S w w') (hs : ∀ p, A = some p → ¬ S p.block) : Own w' B e size A n c xs := by
  refine ⟨h.1, ?_⟩
  rcases h.2 with h1 | ⟨g, cap, cur, h1, h2, h3, h4⟩
  · exact .inl h1
  · refine .inr ⟨g, cap, cur, h1, h2, ht.at (hs ⟨g, 0, none⟩ ?_) h3, h4⟩
    injection h1
theorem HpAt.touch {w w' : World} {S S' : Nat → Prop} {b : Nat} {s : HS} (h : HpAt w S b s) (ht : Touch S' w w') (hs : ∀ k, S k → ¬ S' k) : HpAt w' S b s := by
  obtain ⟨A, c, G, h1, h2, h3, h4, h5, h6⟩ := h
  exact ⟨A, c, G, h1.touch ht (hs _ h4), h2.touch ht (fun p hp => hs _ (h6 p hp)), h3.touch ht (hs _ h5), h4, h5, h6⟩
theorem HpAt.grow {w w' : World} {S : Nat → Prop} {b : Nat} {s : HS} (h : HpAt w S b s) (hg : Grows w w') : HpAt w' S b s := h.touch (hg.touch (fun _ => False)) (fun _ _ => id)
theorem HpAt.mono {w : World} {S S' : Nat → Prop} {b : Nat} {s : HS} (h : HpAt w S b s) (hs : ∀ k, S k → S' k) : HpAt w S' b s := by
  obtain ⟨A, c, G, h1, h2, h3, h4, h5, h6⟩ := h
  exact ⟨A, c, G, h1, h2, h3, hs _ h4, hs _ h5, fun p hp => hs _ (h6 p hp)⟩
theorem Own.item {w : World} {B n c : Nat} {e : TypeId} {A : Option Addr} {L : List Itm} (h : Own w B e 2 A n c (its L)) {i : Nat} (hi : i < n) :
    ∃ g, A = some ⟨g, 0, none⟩ ∧ Mine w ⟨g, i * 2, none⟩ (.int .i64 ((gi2 L i).1 : Int)) ∧ Mine w ⟨g, i * 2 + 1, none⟩ (.int .u64 ((gi2 L i).2 : Int)) := by
  have hl := h.len
  rw [its_len] at hl
  obtain ⟨g, cur, rfl, _⟩ := h.at_ (by omega)
  have hr := (Own.row h).1
  refine ⟨g, rfl, hr.mine ?_, hr.mine ?_⟩
  · have := its_at L i 0 (by omega) (by omega)
    rw [Nat.add_zero] at this
    rw [this]; rfl
  · rw [its_at L i 1 (by omega) (by omega)]; rfl
set_option maxHeartbeats 1000000 in
theorem hpLess (x y : Itm) (w : World) : Calls Tryz.prog 268 #[itVal x, itVal y] w fun e w' => e = .returned (.bool (ahead x y)) ∧ Grows w w' := by
  obtain ⟨a, k⟩ := x
  obtain ⟨c, l⟩ := y
  unfold itVal
  dsimp only
  rcases Nat.lt_trichotomy k l with h | h | h
  · have HA : ahead (a, k) (c, l) = true := decide_eq_true (.inl h)
    rw [HA]
    have d1 : decide ((k : Int) < (l : Int)) = true := decide_eq_true (by omega)
    have d2 : decide (k < l) = true := decide_eq_true h
    clear h HA
    go_enter Tryz.func268, Tryz.ntmps268
    go_wp2
    go_ret
    exact ⟨rfl, GG⟩
  · subst h
    have HA : ahead (a, k) (c, k) = decide (a < c) := by simp [ahead]
    rw [HA]
    have HD : Hid (decide ((a : Int) < (c : Int)) = decide (a < c)) := by simp [Hid]
    clear HA
    go_enter Tryz.func268, Tryz.ntmps268
    go_wp2
    all_goals go_ret
    all_goals refine ⟨?_, GG⟩
    all_goals first | rfl | simp [HD.out]
  · have HA : ahead (a, k) (c, l) = false := decide_eq_false (by dsimp only; omega)
    rw [HA]
    have d1 : decide ((k : Int) < (l : Int)) = false := decide_eq_false (by omega)
    have d2 : decide (k < l) = false := decide_eq_false (by omega)
    have d3 : ((k : Int) == (l : Int)) = false := beq_eq_false_iff_ne.2 (by omega)
    have d4 : (k == l) = false := beq_eq_false_iff_ne.2 (by omega)
    have d5 : ¬ k = l := by omega
    clear h HA
    go_enter Tryz.func268, Tryz.ntmps268
    go_wp2
    go_ret
    exact ⟨rfl, GG⟩
theorem HpAt.lay {w W : World} {b g c G : Nat} {s : HS} (i : Nat) (x : Itm) (h1 : Arr w b 293 [.slice (some ⟨g, 0, none⟩) s.L.length c, .slice (some ⟨G, 0, none⟩) s.T.length s.T.length]) (h2 : Own w 0 320 2 (some ⟨g, 0, none⟩) s.L.length c (its s.L))
    (h3 : Row1 w G 3 1 s.T.length s.T.length (s.T.map (.int .i64))) (hg : Grows w W) (hi : i < s.L.length) {S : Nat → Prop} (s1 : S b) (s2 : S G) (s3 : S g) :
    HpAt (((W.setCell ⟨g, i * 2, none⟩ (.int .i64 (x.1 : Int))).setCell ⟨g, i * 2 + 1, none⟩ (.int .u64 (x.2 : Int))).setCell ⟨G, x.1, none⟩ (.int .i64 (i : Int))) S b (s.lay i x) := by
  have hr := (Own.row h2).1
  have n1 := hr.ne h1 (by decide)
  have n2 := h3.ne h1 (by decide)
  have n3 := hr.ne2 h3 (by decide)
  have e := its_set s.L i x hi
  refine ⟨some ⟨g, 0, none⟩, c, G, ?_, ?_, ?_, s1, s2, fun p hp => by injection hp with hp; subst hp; exact s3⟩
  · rw [(HS.lay_len s i x).1, (HS.lay_len s i x).2]
    exact (((h1.grow hg).other n1 _).other n1 _).other n2 _
  · rw [(HS.lay_len s i x).1]
    show Own _ _ _ _ _ _ _ (its (s.L.set i x))
    rw [← e]
    exact ((((hr.grow hg).set _ _).set _ _).other (Ne.symm n3) _).own (Nat.zero_le _)
  · rw [(HS.lay_len s i x).2]
    have : (s.lay i x).T.map (Value.int .i64) = (s.T.map (Value.int .i64)).set x.1 (.int .i64 (i : Int)) := by simp [HS.lay, List.map_set]
    rw [this]
    exact (((h3.grow hg).other n3 _).other n3 _).set _ _
set_option maxRecDepth 20000 in
set_option maxHeartbeats 2000000 in
theorem hpLay (b : Nat) (s : HS) (i : Nat) (x : Itm) (S : Nat → Prop) (w : World) (h : HpAt w S b s) (hi : i < s.L.length) (hx : x.1 < s.T.length) :
    Calls Tryz.prog 269 #[.pointer (some ⟨b, 0, none⟩), .int .i64 (i : Int), itVal x] w fun e w' => e = .returned (.tuple #[]) ∧ HpAt w' S b (s.lay i x) ∧ Touch S w w' := by
  obtain ⟨A, c, G, h1, h2, h3, h4, h5, h6⟩ := h
  obtain ⟨g, rfl, m1, m2⟩ := h2.item hi
  have m3 := h3.int hx
  have h7 := h6 _ rfl
  have H2 := hide h2
  have H3 := hide h3
  have HR := hide h1
  have hr := (Own.row h2).1
  have n1 : ¬ g = b := hr.ne h1 (by decide)
  have n2 : ¬ G = b := h3.ne h1 (by decide)
  have n3 : ¬ g = G := hr.ne2 h3 (by decide)
  have n4 : ¬ g = w.heap.size := by have := hr.lt; omega
  clear h2 h3 h6 hr
  unfold itVal
  go_enter Tryz.func269, Tryz.ntmps269
  go_wp2_with fail
  go_region_with fail
  all_goals go_wp2_with fail
  all_goals go_end0
  all_goals exact ⟨rfl, (HpAt.lay i x HR.out H2.out H3.out ((Grows.refl w).new _) hi h4 h5 h7).grow (Grows.refl _).drew, ((((((Grows.refl w).new _).touch S).set (.inl h7) _).set (.inl h7) _).set (.inl h5) _).drew⟩
end Go.Proofs.YtgplpgldhoelcaaGreat

namespace Go.Proofs.YtgplpgldhoelcaaGreat
open Go Go.RowKit
def wv (W : List Nat) : List Value := W.map fun (x : Nat) => Value.int .u64 (x : Int)
theorem wv_len (W : List Nat) : (wv W).length = W.length := by simp [wv]
theorem wv_at {W : List Nat} {j : Nat} (h : j < W.length) : (wv W)[j]? = some (.int .u64 (gn W j : Int)) := by simp [wv, gn, h]
theorem wv_set (W : List Nat) (j x : Nat) : (wv W).set j (.int .u64 (x : Int)) = wv (W.set j x) := by simp [wv, List.map_set]
structure BtAt (w : World) (b g n : Nat) (W : List Nat) : Prop where
  row : Arr w b 295 [.int .i64 (n : Int), .slice (some ⟨g, 0, none⟩) W.length W.length]
  words : Row1 w g 41 1 W.length W.length (wv W)
  room : n ≤ W.length * 64
  small : ∀ j, j < W.length → gn W j < 18446744073709551616
def hasW (W : List Nat) (i : Nat) : Bool := (gn W (i / 64)).testBit (i % 64)
theorem bitsSize (b n : Nat) (u : Value) (w : World) (h : Arr w b 295 [.int .i64 (n : Int), u]) : Calls Tryz.prog 234 #[.pointer (some ⟨b, 0, none⟩)] w fun e w' => e = .returned (.int .i64 (n : Int)) ∧ w = w' := by
  go_enter Tryz.func234, Tryz.ntmps234
  go_wp2
  go_ret
  exact ⟨rfl, rfl⟩
set_option maxHeartbeats 1000000 in
theorem bitsHasIn (b g n : Nat) (W : List Nat) (i : Nat) (w : World) (h : BtAt w b g n W) (hi : i < n) (hn : n ≤ 65536) : Calls Tryz.prog 201 #[.pointer (some ⟨b, 0, none⟩), .int .i64 (i : Int)] w fun e w' => e = .returned (.bool (hasW W i)) ∧ w = w' := by
  obtain ⟨q, hq⟩ : ∃ q, i / 64 = q := ⟨_, rfl⟩
  obtain ⟨r, hr⟩ : ∃ r, i % 64 = r := ⟨_, rfl⟩
  have hqi : (i : Int) / 64 = (q : Int) := by omega
  have hri : (i : Int) % 64 = (r : Int) := by omega
  have hrb : r < 64 := by omega
  have hql : q < W.length := by have := h.room; omega
  have m0 : Mine w ⟨g, q, none⟩ (.int .u64 (gn W q : Int)) := h.words.mine (wv_at hql)
  have hx := h.small q hql
  have h1 := h.row
  have C := hide (bitsSize b n _ w h1)
  have HH : Hid (hasW W i = (gn W q).testBit r) := by unfold hasW; rw [hq, hr]; exact rfl
  clear h hq hr
  generalize gn W q = x at *
  go_enter Tryz.func201, Tryz.ntmps201
  go_wp2_with (go_at_call 234; refine (C.out).mono ?_; rintro e w' ⟨rfl, rfl⟩)
  go_ret
  refine ⟨ret_bool ?_, rfl⟩
  rw [HH.out, Nat.testBit_eq_decide_div_mod_eq]
  have e : (x : Int) / 2 ^ r = ((x / 2 ^ r : Nat) : Int) := by simp
  have hlt : x / 2 ^ r ≤ x := Nat.div_le_self _ _
  show (bits BinOp.and IntKind.u64 ((x : Int) / 2 ^ r) 1 == 1) = _
  rw [e]
  generalize x / 2 ^ r = y at *
  rw [and_one_u64 _ (by omega) (by omega)]
  apply bool_ext
  simp
  omega
theorem hasW_set (W : List Nat) (i j : Nat) (hi : i / 64 < W.length) : hasW (W.set (i / 64) (gn W (i / 64) ||| 2 ^ (i % 64))) j = (hasW W j || decide (j = i)) := by
  unfold hasW
  rw [gn_set _ _ _ _ hi]
  by_cases h : j / 64 = i / 64
  · rw [if_pos h, Nat.testBit_or, Nat.testBit_two_pow, h]
    congr 1
    apply bool_ext
    simp
    omega
  · rw [if_neg h]
    have : ¬ j = i := fun e => h (by rw [e])
    simp [this]
theorem or_small {x r : Nat} (hx : x < 18446744073709551616) (hr : r < 64) : x ||| 2 ^ r < 18446744073709551616 := by
  have h1 : (2 : Nat) ^ r < 2 ^ 64 := Nat.pow_lt_pow_right (by omega) hr
  have := Nat.or_lt_two_pow (x := x) (y := 2 ^ r) (n := 64) hx h1
  exact this
def GiveAdd (w : World) (b g n : Nat) (W : List Nat) (i : Int) (e : Ending) (w' : World) : Prop :=
  ∃ r W', e = .returned (.bool r) ∧ BtAt w' b g n W' ∧ (∀ j, j < n → hasW W' j = (hasW W j || decide ((j : Int) = i))) ∧ Touch (fun k => k = g) w w'
theorem BtAt.grow {w w' : World} {b g n : Nat} {W : List Nat} (h : BtAt w b g n W) (hg : Grows w w') : BtAt w' b g n W := ⟨h.row.grow hg, h.words.grow hg, h.room, h.small⟩
theorem GiveAdd.same {w w' : World} {b g n : Nat} {W : List Nat} {i : Int} {r : Bool} (h : BtAt w b g n W) (hg : Grows w w') (hn : ∀ j, j < n → (j : Int) = i → hasW W j = true) : GiveAdd w b g n W i (.returned (.bool r)) w' :=
  ⟨r, W, rfl, h.grow hg, fun j hj => by
    by_cases e : (j : Int) = i
    · rw [hn j hj e]; rfl
    · simp [e], hg.touch _⟩
theorem BtAt.put {w W' : World} {b g n : Nat} {W : List Nat} {i : Nat} (h : BtAt w b g n W) (hg : Grows w W') (hi : i < n) : GiveAdd w b g n W i (.returned (.bool true)) (W'.setCell ⟨g, i / 64, none⟩ (.int .u64 ((gn W (i / 64) ||| 2 ^ (i % 64) : Nat) : Int))) := by
  have hl : i / 64 < W.length := by have := h.room; omega
  refine ⟨true, W.set (i / 64) (gn W (i / 64) ||| 2 ^ (i % 64)), rfl, ⟨?_, ?_, by simpa using h.room, fun j hj => ?_⟩, fun j _ => ?_, (hg.touch (fun k => k = g)).set (p := ⟨g, i / 64, none⟩) (.inl rfl) _⟩
  · rw [List.length_set]; exact (h.row.grow hg).other (h.words.ne h.row (by decide)) _
  · rw [List.length_set, ← wv_set]; exact (h.words.grow hg).set _ _
  · rw [gn_set _ _ _ _ hl]
    split
    · exact or_small (h.small _ hl) (by omega)
    · exact h.small j (by simpa using hj)
  · rw [hasW_set _ _ _ hl]
    congr 1
    apply bool_ext
    simp
    omega
set_option maxHeartbeats 2000000 in
theorem bitsAdd (b g n : Nat) (W : List Nat) (i : Int) (w : World) (h : BtAt w b g n W) (hn : n ≤ 65536) : Calls Tryz.prog 233 #[.pointer (some ⟨b, 0, none⟩), .int .i64 i] w (GiveAdd w b g n W i) := by
  have h1 := h.row
  have C := hide (bitsSize b n _ w h1)
  have HB := hide h
  rcases Int.lt_or_le i 0 with h0 | h0
  · have hd : decide (i < 0) = true := decide_eq_true h0
    clear h
    go_enter Tryz.func233, Tryz.ntmps233
    go_wp2_with fail
    go_ret
    exact GiveAdd.same HB.out GG (fun j _ e => by omega)
  · obtain ⟨k, rfl⟩ : ∃ k : Nat, i = (k : Int) := ⟨i.toNat, by omega⟩
    rcases Nat.lt_or_ge k n with hk | hk
    · have hd : decide ((n : Int) ≤ (k : Int)) = false := decide_eq_false (by omega)
      have hd2 : decide (n ≤ k) = false := decide_eq_false (by omega)
      have CH := hide (bitsHasIn b g n W k w h hk hn)
      obtain ⟨q, hq⟩ : ∃ q, k / 64 = q := ⟨_, rfl⟩
      obtain ⟨r, hr⟩ : ∃ r, k % 64 = r := ⟨_, rfl⟩
      have hqi : (k : Int) / 64 = (q : Int) := by omega
      have hri : (k : Int) % 64 = (r : Int) := by omega
      have hrb : r < 64 := by omega
      have hql : q < W.length := by have := h.room; omega
      have m0 : Mine w ⟨g, q, none⟩ (.int .u64 (gn W q : Int)) := h.words.mine (wv_at hql)
      have hx := h.small q hql
      have HP := hide (fun (W' : World) (hg : Grows w W') => h.put hg hk)
      rw [hq, hr] at HP
      have HHH := hide (rfl : hasW W k = hasW W k)
      clear h hq hr
      cases hh : hasW W k with
      | true =>
        rw [hh] at CH
        have HH := hide hh
        clear hh HHH
        go_enter Tryz.func233, Tryz.ntmps233
        go_wp2_with (first
          | (go_at_call 234; refine (C.out).mono ?_; rintro e w' ⟨rfl, rfl⟩)
          | (go_at_call 201; refine (CH.out).mono ?_; rintro e w' ⟨rfl, rfl⟩))
        go_ret
        exact GiveAdd.same HB.out GG (fun j _ e => by
          have e2 : j = k := by omega
          rw [e2]; exact HH.out)
      | false =>
        rw [hh] at CH
        clear hh HHH
        generalize gn W q = u at *
        have htm : (k : Int).tmod 64 = (r : Int) := by rw [Int.tmod_eq_emod_of_nonneg (by omega)]; exact hri
        have HO : Hid (bits BinOp.or IntKind.u64 (u : Int) (IntKind.u64.wrap (2 ^ r)) = ((u ||| 2 ^ r : Nat) : Int)) := by
          have hpb : 2 ^ r < 2 ^ 64 := Nat.pow_lt_pow_right (by omega) hrb
          have hp : (2 : Int) ^ r = ((2 ^ r : Nat) : Int) := by simp
          show _ = _
          rw [hp]
          generalize 2 ^ r = p at *
          rw [show IntKind.u64.wrap (p : Int) = (p : Int) from IntWalk.u64_in _ (by omega)]
          exact u64_or_nat u p hx hpb
        go_enter Tryz.func233, Tryz.ntmps233
        go_wp2_with (first
          | (go_at_call 234; refine (C.out).mono ?_; rintro e w' ⟨rfl, rfl⟩)
          | (go_at_call 201; refine (CH.out).mono ?_; rintro e w' ⟨rfl, rfl⟩))
        (refine wp_region_tail1 13 (by kernel_rfl) (by kernel_rfl) ?_; simp only [List.take_succ_cons, List.take_zero, List.drop_succ_cons, List.drop_zero]; (repeat' ((first | refine gLex_val0 rfl (by kernel_rfl) (fun K hK => ?_) | refine gLex_undef rfl rfl rfl (by kernel_rfl) (fun K hK => ?_) | (refine gLex_ask rfl rfl rfl ?_; first | (apply gAsk_yes; kernel_rfl; intro K hK) | ((first | apply gAsk_no1 | apply gAsk_no2); kernel_rfl; intro K hK))) <;> (go_simp; (try (simp only [↓IntWalk.iteOmega]; try go_simp)); (try simp (disch := omega) only [IntWalk.i64_in]); (try simp (disch := omega) only [IntWalk.u64_in]); refine hK _ ?_; clear hK K))); refine gLex_endT (fun x => ?_))
        go_wp2_with fail
        rw [HO.out]
        go_ret
        exact HP.out _ GG
    · have hd : decide ((n : Int) ≤ (k : Int)) = true := decide_eq_true (by omega)
      have hd2 : decide (n ≤ k) = true := decide_eq_true hk
      clear h
      go_enter Tryz.func233, Tryz.ntmps233
      go_wp2_with (go_at_call 234; refine (C.out).mono ?_; rintro e w' ⟨rfl, rfl⟩)
      go_ret
      exact GiveAdd.same HB.out GG (fun j _ e => by omega)
end Go.Proofs.YtgplpgldhoelcaaGreat

