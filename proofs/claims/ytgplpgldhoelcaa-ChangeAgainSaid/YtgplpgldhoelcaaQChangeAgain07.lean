/- Contract: a search, node by node; till it is told to end. -/
import Derived.Test.YtgplpgldhoelcaaQChangeAgain05
import Derived.Test.YtgplpgldhoelcaaQChangeAgain02
import Derived.Test.YtgplpgldhoelcaaQChangeAgain06
import Derived.WalkMore
import Derived.Test.YtgplpgldhoelcaaQChangeAgain03
import Derived.Test.YtgplpgldhoelcaaQChangeAgain04
import Derived.Laws.CopyOwn
import Derived.Deep.RegionLaw
import Derived.Test.YtgplpgldhoelcaaQChangeAgain01
namespace Go.Proofs.Ytgplpgldhoelcaa
open Go Go.RowKit
attribute [local go_sem] Oper.semAt_some
def RunI (F B : Nat → Prop) (x : Srch) (bx b2 : Nat) (J : List (Nat × Nat) → (Nat → Prop) → World → Prop) (all : List (Nat × Nat)) (Ds : List Nat) (m : Nat) (wr : World) : Prop :=
  ∃ st pre xs M S, m = xs.length ∧ all = pre ++ xs ∧ Trace x st xs ∧ DjAt F S wr x bx st.1 st.2 ∧ J pre M wr ∧ (∀ k, F k → B k ∨ M k) ∧ (∀ k, S k → M k) ∧ (∀ k, M k → k < wr.heap.size) ∧
    Arr wr b2 209 [.pointer (some ⟨bx, 0, none⟩)] ∧ (M b2 ∧ ¬ S b2) ∧ Marks Ds wr ∧ (∀ D ∈ Ds, M D ∧ ¬ S D)
def EachP (ba v : Nat) (back : Bool) (lo : Nat) : Pr := fun u w => ∃ b1, u = .func (.func 105) #[] #[.pointer (some ⟨b1, 0, none⟩), .pointer (some ⟨b1 + 1, 0, none⟩), .pointer (some ⟨b1 + 1 + 1, 0, none⟩)] ∧ lo ≤ b1 ∧
  Arr w b1 118 [.pointer (some ⟨ba, 0, none⟩)] ∧ Arr w (b1 + 1) 3 [.int .i64 (v : Int)] ∧ Arr w (b1 + 1 + 1) 4 [.bool back]
theorem EachP.lasts (ba v : Nat) (back : Bool) (lo : Nat) : Lasts (EachP ba v back lo) := fun _ _ _ hg ⟨b1, e, h, h1, h2, h3⟩ => ⟨b1, e, h, h1.grow hg, h2.grow hg, h3.grow hg⟩
def InI (F : Nat → Prop) (x : Srch) (bx b2 b5 f lo : Nat) (S0 M0 : Nat → Prop) (J : List (Nat × Nat) → (Nat → Prop) → World → Prop) (pre : List (Nat × Nat)) (Ds : List Nat) (st0 : St) (p : List Nat) (Mi : Nat → Prop) (W : World) : Prop :=
  ∃ S MJ, DjAt F S W x bx (stepK x f st0 p).1 (stepK x f st0 p).2 ∧ J pre MJ W ∧ (∀ k, S k → MJ k) ∧ (∀ k, Mi k → MJ k) ∧ (∀ k, M0 k → MJ k) ∧ (∀ k, MJ k → k < W.heap.size) ∧ (∀ k, Mi k → lo ≤ k ∧ ¬ S k) ∧ (∀ k, S k → S0 k ∨ lo ≤ k) ∧
    Arr W b2 209 [.pointer (some ⟨bx, 0, none⟩)] ∧ Arr W b5 38 [.int .u64 (f : Int)] ∧ Marks Ds W ∧ lo ≤ W.heap.size
theorem InI.reached {F : Nat → Prop} {x : Srch} {bx b2 b5 f lo : Nat} {S0 M0 : Nat → Prop} {J : List (Nat × Nat) → (Nat → Prop) → World → Prop} {pre : List (Nat × Nat)} {Ds : List Nat} {st0 : St} {p : List Nat} {i : Nat} {Mi : Nat → Prop} {W : World} (h : InI F x bx b2 b5 f lo S0 M0 J pre Ds st0 p Mi W)
    (hJ : Yields' J) (b1 v g : Nat) (u : Int) (hu : u = (g : Int)) (he : stepK x f st0 (p ++ [i]) = reachS x.most (stepK x f st0 p) v g) (hto : v < x.N) (hok : HOk (stepK x f st0 p).2 x.N) (hm : x.most < 18446744073709551616) (h2 : b2 < lo ∧ ¬ S0 b2) (h5 : b5 < lo ∧ ¬ S0 b5) (hDs : ∀ D ∈ Ds, D < lo ∧ ¬ S0 D) (hB : b1 + 1 + 1 < lo) (hSb : ∀ k, S0 k → k < b1) :
    ∀ W', Grows W W' → Calls Try.prog 139 #[.pointer (some ⟨bx, 0, none⟩), .int .i64 (v : Int), .int .u64 u] W' fun e w' => e = .returned (.tuple #[]) ∧ Keeps (fun k => F k ∨ (b1 ≤ k ∧ k ≤ b1 + 1 + 1)) Mi W w' ∧ InI F x bx b2 b5 f lo S0 M0 J pre Ds st0 (p ++ [i]) Mi w' := by
  subst hu
  intro W' hg
  obtain ⟨S, MJ, d, j, a1, a2, a3, a4, a5, a6, a7, a8, a9, a10⟩ := h
  have hFS : ∀ k, F k → ¬ S k := fun k hk => by
    obtain ⟨_, _, _, _, _, _, _, _, q, _⟩ := d
    exact (q k hk).1
  refine (djReach F S x bx v g (stepK x f st0 p).1 (stepK x f st0 p).2 W' (d.grow hg) hto hok hm).mono ?_
  rintro e w' ⟨rfl, d', ht'⟩
  have hlow : ∀ k, k < lo → ¬ S0 k → ¬ S k := fun k hk hn e => by
    rcases a6 k e with h | h
    · exact hn h
    · omega
  have ht : Touch S W w' := (hg.touch S).trans ht'
  have hgs := hg.size
  have bnd : ∀ k, (MJ k ∨ New W w' k) → (MJ k ∨ W.heap.size ≤ k) ∧ k < w'.heap.size := fun k hk => by
    rcases hk with hk | hk
    · exact ⟨.inl hk, Nat.lt_of_lt_of_le (a4 k hk) ht.size⟩
    · exact ⟨.inr hk.1, hk.2⟩
  refine ⟨rfl, ht.keeps fun k hk e => ?_, fun k => S k ∨ New W' w' k, fun k => MJ k ∨ New W w' k, ?_, hJ pre MJ W _ w' j (ht.mono a1) bnd, fun k hk => ?_, fun k hk => .inl (a2 k hk), fun k hk => .inl (a3 k hk), fun k hk => (bnd k hk).2, fun k hk => ⟨(a5 k hk).1, fun e => ?_⟩, fun k hk => ?_,
    a7.touch ht (hlow _ h2.1 h2.2), a8.touch ht (hlow _ h5.1 h5.2), a9.touch ht (fun D hD => hlow _ (hDs D hD).1 (hDs D hD).2), Nat.le_trans a10 ht.size⟩
  · rcases e with (e | e) | e
    · exact hFS k e hk
    · exact hlow k (by omega) (fun h => by have := hSb k h; omega) hk
    · exact (a5 k e).2 hk
  · rw [he]
    exact d'
  · rcases hk with hk | hk
    · exact .inl (a1 k hk)
    · exact .inr ⟨Nat.le_trans hgs hk.1, hk.2⟩
  · rcases e with e | e
    · exact (a5 k hk).2 e
    · have := a4 k (a2 k hk); have := e.1; omega
  · rcases hk with hk | hk
    · exact a6 k hk
    · exact .inr (Nat.le_trans a10 (Nat.le_trans hgs hk.1))
theorem InI.over {F B : Nat → Prop} {x : Srch} {bx b2 b5 f lo v : Nat} {S M M1 : Nat → Prop} {J : List (Nat × Nat) → (Nat → Prop) → World → Prop} {pre xs all : List (Nat × Nat)} {Ds : List Nat} {st0 : St} {Mi : Nat → Prop} {W : World} {D : Nat} (h : InI F x bx b2 b5 f lo S (fun k => M k ∨ M1 k) J (pre ++ [(v, f)]) Ds st0 (rowX x v) Mi W)
    (hall : all = pre ++ (v, f) :: xs) (ht : Trace x (stepK x f st0 (rowX x v)) xs) (hF : ∀ k, F k → B k ∨ M k) (hD : ∀ D ∈ Ds, M D ∧ ¬ S D) (hDlo : ∀ D ∈ Ds, D < lo) (h2 : b2 < lo) (hMb : M b2) (hSb : ¬ S b2) (hlD : lo ≤ D) (hMD : Mi D) (hDW : W.heap[D]? = some (.deferred (some []))) :
    RunI F B x bx b2 J all (D :: Ds) xs.length W := by
  obtain ⟨SI, MJ, d, j, a1, a2, a3, a4, a5, a6, a7, a8, a9, a10⟩ := h
  refine ⟨_, pre ++ [(v, f)], xs, MJ, SI, rfl, by rw [hall]; simp, ht, d, j, fun k hk => ?_, a1, a4, a7, ⟨a3 _ (.inl hMb), fun e => ?_⟩, a9.cons hDW (fun e => by have := hDlo D e; omega), fun D' hD' => ?_⟩
  · rcases hF k hk with h | h
    · exact .inl h
    · exact .inr (a3 _ (.inl h))
  · rcases a6 _ e with h | h
    · exact hSb h
    · omega
  · rcases List.mem_cons.1 hD' with rfl | hD'
    · exact ⟨a2 _ hMD, (a5 _ hMD).2⟩
    · refine ⟨a3 _ (.inl (hD D' hD').1), fun e => ?_⟩
      rcases a6 _ e with h | h
      · exact (hD D' hD').2 h
      · have := hDlo D' hD'; omega
end Go.Proofs.Ytgplpgldhoelcaa

namespace Go.Proofs.Ytgplpgldhoelcaa
open Go Go.RowKit
theorem Rd.wordsH {w : World} {A : Option Addr} {n : Nat} {W : List Nat} (h : Rd w A 1 n (wv W)) (hn : 0 < n) : W.length = n ∧ ∃ b off, A = some ⟨b, off, none⟩ ∧ ∀ k, k < n → Holds w ⟨b, off + k, none⟩ (.int .u64 (gn W k : Int)) := by
  have hl : W.length = n := by have := h.len; rw [wv_len] at this; omega
  obtain ⟨b, off, e, hc⟩ := h.at_ hn
  exact ⟨hl, b, off, e, fun k hk => ⟨hc k _ (wv_at (by omega))⟩⟩
theorem Rd.wlen {w : World} {A : Option Addr} {n : Nat} {W : List Nat} (h : Rd w A 1 n (wv W)) : W.length = n := by have := h.len; rw [wv_len] at this; omega
abbrev oVal (back : Bool) (nn ne : Value) (Aw : Option Addr) (nw cw most : Nat) : Value := .agg #[.bool back, nn, ne, .slice Aw nw cw, .int .u64 (most : Int)]
end Go.Proofs.Ytgplpgldhoelcaa

namespace Go.Proofs.Ytgplpgldhoelcaa
open Go Go.RowKit
def GiveU (w : World) (L : List Nat) (e : Ending) (w' : World) : Prop := ∃ A c, e = .returned (.slice A L.length c) ∧ Own w' w.heap.size 38 1 A L.length c (wv L) ∧ Grows w w'
theorem GiveU.nil (w : World) {w' : World} (h : Grows w w') : GiveU w [] (.returned (.slice none 0 0)) w' := ⟨none, 0, rfl, Own.nil _ _ _ _, h⟩
def eW (E : List Edg) : List Nat := E.map fun e => e.w.toNat
def wtF (N : Int) (E : List Edg) (W : List Nat) : List Nat := if rightF N E ≠ 0 then [] else if 0 < W.length ∧ W.length ≠ E.length then [] else if 0 < W.length then W else eW E
set_option maxRecDepth 20000 in
set_option maxHeartbeats 4000000 in
theorem r14Weights (N : Int) (A : Option Addr) (n c : Nat) (E : List Edg) (back : Bool) (nn ne : Value) (Aw : Option Addr) (nw cw most : Nat) (W : List Nat) (w : World) (h : Rd w A 3 n (esCells E)) (hW : Rd w Aw 1 nw (wv W)) (hn : n ≤ 1000000) (hnw : nw ≤ 1000000) :
    Calls Try.prog 131 #[.agg #[.int .i64 N, .slice A n c], oVal back nn ne Aw nw cw most] w (GiveU w (wtF N E W)) := by
  unfold oVal
  have HL := hide h.elen
  have HLW := hide hW.wlen
  have HR := hide h
  have HRW := hide hW
  have C1 := hide (fun (W : World) (g : Grows w W) => r5Right N A n c E W (h.grows g) hn)
  clear h hW
  by_cases hr : rightF N E = 0
  · rw [hr] at C1
    by_cases hl : 0 < nw ∧ nw ≠ n
    · have HD := hide (show wtF N E W = [] from by unfold wtF; rw [if_neg (show ¬ rightF N E ≠ 0 by omega), HLW.out, HL.out, if_pos hl])
      obtain ⟨hl1, hl2⟩ := hl
      have hl3 : ((nw : Int) != (n : Int)) = true := bne_iff_ne.2 (by omega)
      have hl4 : ((nw : Int) != 0) = true := bne_iff_ne.2 (by omega)
      clear hr hl2
      rw [HD.out]
      go_enter Try.func131, Try.ntmps131
      go_wp2_with (go_at_call 44; refine (C1.out _ GG).mono ?_; rintro e w' ⟨rfl, hg⟩; obtain ⟨x1, rfl⟩ := hg.later; clear hg)
      go_ret
      exact GiveU.nil w GG
    · have HD := hide (show ∃ L, wtF N E W = L ∧ L.length = n ∧ ∀ k, k < n → if 0 < nw then gn L k = gn W k else (gn L k : Int) = (ge E k).w from by
        obtain ⟨r1, r2, r3, r4, r5⟩ := right_in hr
        unfold wtF
        rw [if_neg (show ¬ rightF N E ≠ 0 by omega), HLW.out, HL.out, if_neg hl]
        by_cases hz : 0 < nw
        · rw [if_pos hz]
          exact ⟨W, rfl, by rw [HLW.out]; omega, fun k _ => by rw [if_pos hz]⟩
        · rw [if_neg hz]
          refine ⟨eW E, rfl, by simp [eW, HL.out], fun k hk => ?_⟩
          rw [if_neg hz]
          have h1 := (r5 k (by rw [HL.out]; exact hk)).1
          have h2 : gn (eW E) k = (ge E k).w.toNat := by
            have h3 : k < E.length := by rw [HL.out]; exact hk
            simp [gn, eW, ge, h3]
          rw [h2]; omega)
      obtain ⟨L, e1, e2, e3⟩ := HD.out
      rw [e1]
      have HLL := hide e2
      have HAT := hide e3
      have hnw2 : nw = 0 ∨ nw = n := by omega
      clear hr e1 e2 e3 HD hl
      rcases hnw2 with rfl | rfl
      · clear HRW
        go_enter Try.func131, Try.ntmps131
        go_wp2_with (go_at_call 44; refine (C1.out _ GG).mono ?_; rintro e w' ⟨rfl, hg⟩; obtain ⟨x1, rfl⟩ := hg.later; clear hg)
        go_loopw [6, 5] (fun i u wr => ∃ k : Nat, k ≤ n ∧ i = .int .i64 (k : Int) ∧ ∃ y : Later x1.now, wr = y.now ∧ ∃ A' c', u = .slice A' k c' ∧ Own y.now x1.now.heap.size 38 1 A' k c' (wv (L.take k))) (fun i _ _ => n - (Go.RowKit.intOf i).toNat)
        case atStart => exact ⟨0, by omega, by go_num, ⟨_, Grows.refl _⟩, rfl, none, 0, by go_num, Own.nil _ _ _ _⟩
        case round =>
          obtain ⟨k, hk, rfl, y, rfl, A', c', rfl, hown⟩ := hrel
          have HO := hide hown
          clear hown
          by_cases hend : n ≤ k
          · obtain rfl : k = n := by omega
            go_wp2
            go_ret
            have hl := HLL.out
            have ho := HO.out
            rw [List.take_of_length_le (by omega)] at ho
            exact ⟨A', c', by rw [hl]; rfl, by rw [hl]; exact ho.base (by have := x1.size; simp at this; omega), GG⟩
          · have HT : Hid (L.take (k + 1) = L.take k ++ [gn L k]) := by
              have : k < L.length := by rw [HLL.out]; omega
              show _ = _
              rw [List.take_succ_eq_append_getElem this]
              simp [gn, this]
            have hat := HAT.out k (by omega)
            rw [if_neg (by omega)] at hat
            obtain ⟨b2, off2, rfl, hc2⟩ := HR.out.edgesH (by omega)
            obtain ⟨_, _, c4⟩ := hc2 k (by omega)
            rw [← hat] at c4
            clear hc2
            clear hat
            generalize gn L k = v at *
            go_wp2_with (at_builtin; refine wp_app1 elemU64.elem rfl _ _ rfl _ GG k c' A' _ rfl (HO.out.new _) _ _ _ rfl inferInstance rfl (by omega) ?_; intro A3 c3 y3 hown3; have HO3 := hide hown3; clear hown3)
            go_roundw
            case measure => simp [Go.RowKit.intOf]; omega
            case rel =>
              refine ⟨k + 1, by omega, by go_num, y3, rfl, A3, c3, rfl, ?_⟩
              rw [HT.out]
              have := HO3.out
              simpa [wv] using this
      · by_cases hz : nw = 0
        · subst hz
          clear HRW
          go_enter Try.func131, Try.ntmps131
          go_wp2_with (go_at_call 44; refine (C1.out _ GG).mono ?_; rintro e w' ⟨rfl, hg⟩; obtain ⟨x1, rfl⟩ := hg.later; clear hg)
          go_loopw [6, 5] (fun i u wr => ∃ k : Nat, k ≤ 0 ∧ i = .int .i64 (k : Int) ∧ ∃ y : Later x1.now, wr = y.now ∧ ∃ A' c', u = .slice A' k c' ∧ Own y.now x1.now.heap.size 38 1 A' k c' (wv (L.take k))) (fun i _ _ => 0 - (Go.RowKit.intOf i).toNat)
          case atStart => exact ⟨0, by omega, by go_num, ⟨_, Grows.refl _⟩, rfl, none, 0, by go_num, Own.nil _ _ _ _⟩
          case round =>
            obtain ⟨k, hk, rfl, y, rfl, A', c', rfl, hown⟩ := hrel
            have HO := hide hown
            clear hown
            by_cases hend : 0 ≤ k
            · obtain rfl : k = 0 := by omega
              go_wp2
              go_ret
              have hl := HLL.out
              have ho := HO.out
              rw [List.take_of_length_le (by omega)] at ho
              exact ⟨A', c', by rw [hl]; rfl, by rw [hl]; exact ho.base (by have := x1.size; simp at this; omega), GG⟩
            · exact absurd (Nat.zero_le k) hend
        · have hp : 0 < nw := by omega
          have hl4 : ((nw : Int) == 0) = false := beq_eq_false_iff_ne.2 (by omega)
          clear hz
          go_enter Try.func131, Try.ntmps131
          go_wp2_with (go_at_call 44; refine (C1.out _ GG).mono ?_; rintro e w' ⟨rfl, hg⟩; obtain ⟨x1, rfl⟩ := hg.later; clear hg)
          go_loopw [6, 5] (fun i u wr => ∃ k : Nat, k ≤ nw ∧ i = .int .i64 (k : Int) ∧ ∃ y : Later x1.now, wr = y.now ∧ ∃ A' c', u = .slice A' k c' ∧ Own y.now x1.now.heap.size 38 1 A' k c' (wv (L.take k))) (fun i _ _ => nw - (Go.RowKit.intOf i).toNat)
          case atStart => exact ⟨0, by omega, by go_num, ⟨_, Grows.refl _⟩, rfl, none, 0, by go_num, Own.nil _ _ _ _⟩
          case round =>
            obtain ⟨k, hk, rfl, y, rfl, A', c', rfl, hown⟩ := hrel
            have HO := hide hown
            clear hown
            by_cases hend : nw ≤ k
            · obtain rfl : k = nw := by omega
              go_wp2
              go_ret
              have hl := HLL.out
              have ho := HO.out
              rw [List.take_of_length_le (by omega)] at ho
              exact ⟨A', c', by rw [hl]; rfl, by rw [hl]; exact ho.base (by have := x1.size; simp at this; omega), GG⟩
            · have HT : Hid (L.take (k + 1) = L.take k ++ [gn L k]) := by
                have : k < L.length := by rw [HLL.out]; omega
                show _ = _
                rw [List.take_succ_eq_append_getElem this]
                simp [gn, this]
              have hat := HAT.out k (by omega)
              rw [if_pos (by omega)] at hat
              obtain ⟨_, b2, off2, rfl, hc2⟩ := HRW.out.wordsH (by omega)
              have c4 := hc2 k (by omega)
              rw [← hat] at c4
              clear hc2
              clear hat
              generalize gn L k = v at *
              go_wp2_with (at_builtin; refine wp_app1 elemU64.elem rfl _ _ rfl _ GG k c' A' _ rfl (HO.out.new _) _ _ _ rfl inferInstance rfl (by omega) ?_; intro A3 c3 y3 hown3; have HO3 := hide hown3; clear hown3)
              go_roundw
              case measure => simp [Go.RowKit.intOf]; omega
              case rel =>
                refine ⟨k + 1, by omega, by go_num, y3, rfl, A3, c3, rfl, ?_⟩
                rw [HT.out]
                have := HO3.out
                simpa [wv] using this
  · have hr2 : (rightF N E == 0) = false := beq_eq_false_iff_ne.2 hr
    have HD := hide (show wtF N E W = [] from by unfold wtF; rw [if_pos hr])
    rw [HD.out]
    generalize rightF N E = r at *
    go_enter Try.func131, Try.ntmps131
    go_wp2_with (go_at_call 44; refine (C1.out _ GG).mono ?_; rintro e w' ⟨rfl, hg⟩; obtain ⟨x1, rfl⟩ := hg.later; clear hg)
    go_ret
    exact GiveU.nil w GG
end Go.Proofs.Ytgplpgldhoelcaa

namespace Go.Proofs.Ytgplpgldhoelcaa
open Go Go.RowKit
attribute [local go_sem] Oper.semAt_some
def Ty (w : World) (k : Nat) (t : TypeId) : Prop := ∃ cur, w.heap[k]? = some (.cells cur t (0, 0))
theorem Ty.one {w : World} {k : Nat} {t u : TypeId} (h : Ty w k t) (h' : Ty w k u) : t = u := by
  obtain ⟨c, h⟩ := h
  obtain ⟨d, h'⟩ := h'
  rw [h] at h'
  injection h' with h'
  injection h' with _ h'
theorem Ty.grow {w w' : World} {k : Nat} {t : TypeId} (h : Ty w k t) (hg : Grows w w') : Ty w' k t := by
  obtain ⟨c, h⟩ := h
  exact ⟨c, (hg.block k (Array.getElem?_eq_some_iff.1 h).1).trans h⟩
theorem Ty.lt {w : World} {k : Nat} {t : TypeId} (h : Ty w k t) : k < w.heap.size := by
  obtain ⟨c, h⟩ := h
  exact (Array.getElem?_eq_some_iff.1 h).1
theorem Arr.ty {w : World} {g : Nat} {t : TypeId} {cs : List Value} (h : Arr w g t cs) : Ty w g t := ⟨_, h.is⟩
theorem Row1.ty {w : World} {g size n c : Nat} {t : TypeId} {xs : List Value} (h : Row1 w g t size n c xs) : Ty w g t := by
  obtain ⟨cur, h1, _⟩ := h.is
  exact ⟨cur, h1⟩
theorem Own.ty {w : World} {B n c size : Nat} {t : TypeId} {A : Option Addr} {xs : List Value} (h : Own w B t size A n c xs) : ∀ p, A = some p → B ≤ p.block ∧ Ty w p.block t := by
  intro p hp
  rcases h.2 with ⟨h1, _⟩ | ⟨g, cap, cur, h1, h2, h3, _⟩
  · rw [hp] at h1; cases h1
  · rw [hp] at h1
    injection h1 with h1 _ _
    injection h1 with h1
    subst h1
    exact ⟨h2, cur, h3⟩
section
variable {P : Program} {w0 : World}
def AtW (P : Program) (ops : Array Oper) (Q : Exit → Act → World → Prop) (tail : List Oper) (a : Act) (G : Env) (w' : World) : Prop := ∀ a', Conc G a a' w' → wpList P ops Q tail a' w'
theorem AtW.pop {ops : Array Oper} {Q : Exit → Act → World → Prop} {tail : List Oper} {a : Act} {G : Env} {w' : World} {t : Tmp} {p : Pr} (hG : G t = none) (ht : t < a.tmps.size)
    (h : ∀ v, p v w' → AtW P ops Q tail (a.put (some t) v) G w') : AtW P ops Q tail a (G.upd t p) w' := fun a' hc => by
  obtain ⟨v, hv⟩ := conc_upd hc ht
  rcases hv with ⟨hp, hc2⟩ | hne
  · exact h v hp a' hc2
  · exact absurd hG hne
theorem AtW.base {ops : Array Oper} {Q : Exit → Act → World → Prop} {tail : List Oper} {a : Act} {w' : World} (h : wpList P ops Q tail a w') : AtW P ops Q tail a Env.no w' := fun a' hc => by rw [conc_no hc]; exact h
end
def WtP (lo : Nat) (L : List Nat) : Pr := fun u w => ∃ A c, u = .slice A L.length c ∧ Own w lo 38 1 A L.length c (wv L)
theorem WtP.lasts (lo : Nat) (L : List Nat) : Lasts (WtP lo L) := fun _ _ _ hg ⟨A, c, e, h⟩ => ⟨A, c, e, h.grows hg⟩
def BtP (lo n : Nat) (p : Nat → Bool) : Pr := fun u w => ∃ b g W, u = .pointer (some ⟨b, 0, none⟩) ∧ (BtAt w b g n W ∧ ∀ j, j < n → hasW W j = p j) ∧ lo ≤ b ∧ lo ≤ g
theorem BtP.lasts (lo n : Nat) (p : Nat → Bool) : Lasts (BtP lo n p) := fun _ _ _ hg ⟨b, g, W, e, ⟨h, h'⟩, l⟩ => ⟨b, g, W, e, ⟨h.grow hg, h'⟩, l⟩
def StP (lo N : Nat) : Pr := fun u w => ∃ b g, u = .pointer (some ⟨b, 0, none⟩) ∧ StL w b g (List.replicate N (0, 0)) 0 ∧ lo ≤ b ∧ lo ≤ g
theorem StP.lasts (lo N : Nat) : Lasts (StP lo N) := fun _ _ _ hg ⟨b, g, e, h, l⟩ => ⟨b, g, e, h.grow hg, l⟩
def HpT (w : World) (lo : Nat) (S2 : Nat → Prop) : Prop := ∀ k, S2 k → lo ≤ k ∧ ∃ t, Ty w k t ∧ (t = 221 ∨ t = 3 ∨ t = 223)
def HpP (lo N : Nat) : Pr := fun u w => ∃ b S2, u = .pointer (some ⟨b, 0, none⟩) ∧ HpAt w S2 b (st0 N).2 ∧ HpT w lo S2
theorem HpP.lasts (lo N : Nat) : Lasts (HpP lo N) := fun _ _ _ hg ⟨b, S2, e, h, l⟩ => ⟨b, S2, e, h.grow hg, fun k hk => ⟨(l k hk).1, by obtain ⟨_, t, h1, h2⟩ := l k hk; exact ⟨t, h1.grow hg, h2⟩⟩⟩
def WkF (w : World) (lo : Nat) (Fa : Nat → Prop) (k : Nat) : Prop := (Fa k ∧ k < lo) ∨ (lo ≤ k ∧ ∃ t, Ty w k t ∧ (t = 213 ∨ t = 243 ∨ t = 38))
def WkS (w : World) (lo : Nat) (k : Nat) : Prop := lo ≤ k ∧ ∃ t, Ty w k t ∧ (t = 230 ∨ t = 234 ∨ t = 221 ∨ t = 3 ∨ t = 223)
theorem WkF.not {w : World} {lo k : Nat} {Fa : Nat → Prop} (h : WkF w lo Fa k) : ¬ WkS w lo k := by
  rintro ⟨h1, t, h2, h3⟩
  rcases h with ⟨_, h⟩ | ⟨_, u, h4, h5⟩
  · omega
  · have := h2.one h4
    subst this
    rcases h3 with rfl | rfl | rfl | rfl | rfl <;> rcases h5 with h | h | h <;> exact absurd h (by decide)
theorem Rd.touch0 {w w' : World} {S : Nat → Prop} {A : Option Addr} {size n : Nat} {xs : List Value} (h : Rd w A size n xs) (ht : Touch S w w') (hp : 0 < n → ∀ p, A = some p → ¬ S p.block) : Rd w' A size n xs := by
  rcases Nat.eq_zero_or_pos n with h0 | h0
  · exact ⟨h.1, fun h1 => absurd h0 (Nat.ne_of_gt h1)⟩
  · exact h.touch ht (hp h0)
structure DOpt where
  back : Bool
  nn : List Int
  ne : List Int
  W : List Nat
  most : Nat
def srchOf (N : Nat) (E : List Edg) (o : DOpt) : Srch := ⟨N, E, o.back, o.most, wtF N E o.W, fun j => decide ((j : Int) ∈ o.nn), fun j => decide ((j : Int) ∈ o.ne)⟩
def WalkAt (F : Nat → Prop) (w : World) (b1 b2 b3 N s : Nat) (E : List Edg) (o : DOpt) : Prop :=
  ∃ A c An cn Ae ce Aw cw, Arr w b1 44 [.int .i64 (N : Int), .slice A E.length c] ∧ Arr w b2 78 [.bool o.back, .slice An o.nn.length cn, .slice Ae o.ne.length ce, .slice Aw o.W.length cw, .int .u64 (o.most : Int)] ∧ Arr w b3 3 [.int .i64 (s : Int)] ∧
    Rd w A 3 E.length (esCells E) ∧ Rd w An 1 o.nn.length (o.nn.map (.int .i64)) ∧ Rd w Ae 1 o.ne.length (o.ne.map (.int .i64)) ∧ Rd w Aw 1 o.W.length (wv o.W) ∧
    (F b1 ∧ F b2 ∧ F b3 ∧ (0 < E.length → ∀ p, A = some p → F p.block) ∧ (0 < o.nn.length → ∀ p, An = some p → F p.block) ∧ (0 < o.ne.length → ∀ p, Ae = some p → F p.block) ∧ (0 < o.W.length → ∀ p, Aw = some p → F p.block))
theorem WalkAt.touch {F S : Nat → Prop} {w w' : World} {b1 b2 b3 N s : Nat} {E : List Edg} {o : DOpt} (h : WalkAt F w b1 b2 b3 N s E o) (ht : Touch S w w') (hs : ∀ k, F k → ¬ S k) : WalkAt F w' b1 b2 b3 N s E o := by
  obtain ⟨A, c, An, cn, Ae, ce, Aw, cw, h1, h2, h3, h4, h5, h6, h7, f1, f2, f3, f4, f5, f6, f7⟩ := h
  exact ⟨A, c, An, cn, Ae, ce, Aw, cw, h1.touch ht (hs _ f1), h2.touch ht (hs _ f2), h3.touch ht (hs _ f3), h4.touch0 ht (fun h p hp => hs _ (f4 h p hp)), h5.touch0 ht (fun h p hp => hs _ (f5 h p hp)), h6.touch0 ht (fun h p hp => hs _ (f6 h p hp)), h7.touch0 ht (fun h p hp => hs _ (f7 h p hp)), f1, f2, f3, f4, f5, f6, f7⟩
structure WalkOk (N s : Nat) (E : List Edg) (o : DOpt) : Prop where
  right : rightF N E = 0
  node : s < N
  wts : o.W.length = 0 ∨ o.W.length = E.length
  most : o.most < 18446744073709551616
  nns : o.nn.length ≤ 1000000
  nes : o.ne.length ≤ 1000000
theorem WalkOk.wlen {N s : Nat} {E : List Edg} {o : DOpt} (h : WalkOk N s E o) : (wtF N E o.W).length = E.length := by
  have hr := h.right
  have hw := h.wts
  unfold wtF
  rw [if_neg (by omega), if_neg (by omega)]
  split
  · omega
  · simp [eW]
theorem WalkOk.srch {N s : Nat} {E : List Edg} {o : DOpt} (h : WalkOk N s E o) : SrchOk (srchOf N E o) := by
  obtain ⟨r1, r2, r3, r4, r5⟩ := right_in h.right
  rw [Int.toNat_natCast] at r4
  exact ⟨r4, by show E.length ≤ _; omega, by show N ≤ _; omega, h.wlen, h.most⟩
end Go.Proofs.Ytgplpgldhoelcaa

namespace Go.Proofs.Ytgplpgldhoelcaa
open Go Go.RowKit
def RepAt (w : World) (G n z k : Nat) (wr : World) : Prop := ∃ y : Later w, wr = y.now ∧ ∃ cs : List Value, Arr y.now G 38 cs ∧ cs.length = n ∧ cs.take k = List.replicate k (Value.int .u64 (z : Int))
theorem RepAt.copied {w : World} {G n z k m : Nat} {y : Later w} {cs : List Value} (ha : Arr y.now G 38 cs) (hl : cs.length = n) (hk : cs.take k = List.replicate k (.int .u64 (z : Int))) (hm : k + m ≤ n) (hG : w.heap.size ≤ G) :
    RepAt w G n z (k + m) (y.now.setRow G (cs.take k ++ (List.replicate m (Value.int .u64 (z : Int)) ++ cs.drop (k + m))).toArray) := by
  refine ⟨⟨_, below_setRow y.grows hG _⟩, rfl, _, ⟨setRow_heap _ _ _ _ _ _ ha.is⟩, ?_, ?_⟩
  · simp; omega
  · rw [hk, ← List.append_assoc, List.replicate_append_replicate, List.take_left' (by simp)]
end Go.Proofs.Ytgplpgldhoelcaa

namespace Go.Proofs.Ytgplpgldhoelcaa
open Go Go.RowKit
attribute [local go_sem] Oper.semAt_some
abbrev farV : Nat := 4611686018427387904
def outL (N : Nat) (xs : List (Nat × Nat)) : List Nat := xs.foldl (fun L p => L.set p.1 p.2) (List.replicate N farV)
theorem outL_len (N : Nat) (xs : List (Nat × Nat)) : (outL N xs).length = N := by
  unfold outL
  suffices h : ∀ L : List Nat, (xs.foldl (fun L p => L.set p.1 p.2) L).length = L.length by rw [h]; simp
  induction xs with
  | nil => intro L; rfl
  | cons p xs ih => intro L; rw [List.foldl_cons, ih, List.length_set]
end Go.Proofs.Ytgplpgldhoelcaa

namespace Go.Proofs.Ytgplpgldhoelcaa
open Go Go.RowKit
theorem set_fold (xs : List (Nat × Nat)) : ∀ (L : List Nat) (v f : Nat), v < L.length → (xs.map Prod.fst).Nodup → (v, f) ∈ xs → gn (xs.foldl (fun L p => L.set p.1 p.2) L) v = f := by
  suffices keep : ∀ (xs : List (Nat × Nat)) (L : List Nat) (v : Nat), v ∉ xs.map Prod.fst → gn (xs.foldl (fun L p => L.set p.1 p.2) L) v = gn L v by
    induction xs with
    | nil => intro L v f _ _ h; cases h
    | cons p xs ih =>
      intro L v f hv hn hm
      rw [List.map_cons, List.nodup_cons] at hn
      rw [List.foldl_cons]
      rcases List.mem_cons.1 hm with h | h
      · rw [keep xs _ v (by have := hn.1; rw [← h] at this; exact this), ← h]
        simp [gn, hv]
      · exact ih _ v f (by simpa using hv) hn.2 h
  intro xs
  induction xs with
  | nil => intro L v _; rfl
  | cons p xs ih =>
    intro L v hv
    rw [List.map_cons, List.mem_cons, not_or] at hv
    rw [List.foldl_cons, ih _ v hv.2]
    simp [gn, Ne.symm hv.1]
theorem outL_at {N v f : Nat} {xs : List (Nat × Nat)} (hn : (xs.map Prod.fst).Nodup) (hv : v < N) (h : (v, f) ∈ xs) : gn (outL N xs) v = f := set_fold xs _ v f (by simpa using hv) hn h
theorem outL_no {N v : Nat} {xs : List (Nat × Nat)} (hv : v < N) (h : v ∉ xs.map Prod.fst) : gn (outL N xs) v = farV := by
  unfold outL
  suffices keep : ∀ (xs : List (Nat × Nat)) (L : List Nat) (v : Nat), v ∉ xs.map Prod.fst → gn (xs.foldl (fun L p => L.set p.1 p.2) L) v = gn L v by
    rw [keep xs _ v h]
    simp [gn, hv]
  intro xs
  induction xs with
  | nil => intro L v _; rfl
  | cons p xs ih =>
    intro L v hv
    rw [List.map_cons, List.mem_cons, not_or] at hv
    rw [List.foldl_cons, ih _ v hv.2]
    simp [gn, Ne.symm hv.1]
theorem outL_cases {x : Srch} {s mw v : Nat} {xs : List (Nat × Nat)} (h : Far x s mw xs) (hb : x.N * mw < farV) (hv : v < x.N) :
    ((v, gn (outL x.N xs) v) ∈ xs ∧ gn (outL x.N xs) v < farV) ∨ (gn (outL x.N xs) v = farV ∧ ∀ f, (v, f) ∉ xs) := by
  by_cases hm : v ∈ xs.map Prod.fst
  · obtain ⟨⟨u, f⟩, hp, rfl⟩ := List.mem_map.1 hm
    have e := outL_at h.nodup hv hp
    simp only at e
    refine .inl ?_
    simp only
    rw [e]
    exact ⟨hp, by have := (h.way _ _ hp).2.2.2; omega⟩
  · exact .inr ⟨outL_no hv hm, fun f hf => hm (List.mem_map.2 ⟨_, hf, rfl⟩)⟩
theorem Far.one {x : Srch} {s mw v f g : Nat} {xs : List (Nat × Nat)} (h : Far x s mw xs) (h1 : (v, f) ∈ xs) (h2 : (v, g) ∈ xs) : f = g := by
  have hv := (h.way _ _ h1).1
  rw [← outL_at h.nodup hv h1, ← outL_at h.nodup hv h2]
theorem Far.edge {x : Srch} {s mw i : Nat} {xs : List (Nat × Nat)} (h : Far x s mw xs) (hb : x.N * mw < farV) (hm : x.most = 0) (hu : nN x.E x.back i < x.N) (ht : toE x i < x.N) (hi : i < x.E.length) (hc : cntE x i = true) (hf : gn (outL x.N xs) (nN x.E x.back i) < farV) :
    gn (outL x.N xs) (toE x i) ≤ gn (outL x.N xs) (nN x.E x.back i) + gn x.W i := by
  rcases outL_cases h hb hu with ⟨h1, _⟩ | ⟨h1, _⟩
  · have hw := (h.way _ _ h1).2.1
    obtain ⟨g, hg, hle⟩ := h.all _ _ (hw.step hi hc) (fun h => by omega)
    rw [outL_at h.nodup ht hg]
    exact hle
  · omega
theorem Far.by_ {x : Srch} {s mw v : Nat} {xs : List (Nat × Nat)} (h : Far x s mw xs) (hb : x.N * mw < farV) (hm : x.most = 0) (hn : ∀ i, i < x.E.length → nN x.E x.back i < x.N) (hv : v < x.N) (hvs : v ≠ s) (hf : gn (outL x.N xs) v < farV) :
    ∃ i, i < x.E.length ∧ toE x i = v ∧ gn (outL x.N xs) (nN x.E x.back i) < farV ∧ gn (outL x.N xs) v = gn (outL x.N xs) (nN x.E x.back i) + gn x.W i := by
  rcases outL_cases h hb hv with ⟨h1, _⟩ | ⟨h1, _⟩
  · obtain ⟨f, hfe⟩ : ∃ f, gn (outL x.N xs) v = f := ⟨_, rfl⟩
    rw [hfe] at h1 hf ⊢
    have hw := (h.way _ _ h1).2.1
    cases hw with
    | here => exact absurd rfl hvs
    | @step f' i hw hi hc =>
      obtain ⟨g, hg, hle⟩ := h.all _ _ hw (fun h => by omega)
      have hwg := (h.way _ _ hg).2.1
      obtain ⟨g2, hg2, hle2⟩ := h.all _ _ (hwg.step hi hc) (fun h => by omega)
      have e := h.one hg2 h1
      have e2 := outL_at h.nodup (hn i hi) hg
      exact ⟨i, hi, rfl, by rw [e2]; omega, by rw [e2]; omega⟩
  · omega
theorem Far.begin_ {x : Srch} {s mw : Nat} {xs : List (Nat × Nat)} (h : Far x s mw xs) (hs : s < x.N) : gn (outL x.N xs) s = 0 := by
  obtain ⟨g, hg, hle⟩ := h.all s 0 .here (fun _ => Nat.zero_le _)
  rw [outL_at h.nodup hs hg]
  omega
theorem Way.trans {x : Srch} {a b c f g : Nat} (h : Way x a b f) (k : Way x b c g) : Way x a c (f + g) := by
  induction k with
  | here => exact h
  | step k hi hc ih =>
    rw [← Nat.add_assoc]
    exact ih.step hi hc
def turnX (x : Srch) : Srch := { x with back := !x.back }
theorem Way.turned {x : Srch} (hc : ∀ i, i < x.E.length → cntE (turnX x) i = true) {a b f : Nat} (h : Way x a b f) : Way (turnX x) b a f := by
  induction h with
  | here => exact .here
  | @step f i h hi hcn ih =>
    have h1 : nN (turnX x).E (turnX x).back i = toE x i := by
      unfold nN toE turnX
      cases x.back <;> rfl
    have h2 : toE (turnX x) i = nN x.E x.back i := by
      unfold nN toE turnX
      cases x.back <;> rfl
    have h3 := Way.step (x := turnX x) (s := toE x i) (f := 0) (i := i) (by rw [h1]; exact .here) hi (hc i hi)
    rw [h2, Nat.zero_add] at h3
    have := h3.trans ih
    rw [Nat.add_comm] at this
    exact this
theorem Far.turned {x : Srch} {s t mw : Nat} {xs ys : List (Nat × Nat)} (h : Far x s mw xs) (k : Far (turnX x) t mw ys) (hb : x.N * mw < farV) (hm : x.most = 0) (hc : ∀ i, i < x.E.length → cntE (turnX x) i = true) (hc2 : ∀ i, i < x.E.length → cntE x i = true) (hs : s < x.N) (ht : t < x.N) :
    gn (outL x.N ys) s = gn (outL x.N xs) t := by
  have tt : turnX (turnX x) = x := by unfold turnX; cases x; simp
  have back : ∀ {f}, Way (turnX x) t s f → Way x s t f := fun {f} h => by
    have := Way.turned (x := turnX x) (by rw [tt]; exact hc2) h
    rw [tt] at this
    exact this
  have hm2 : (turnX x).most = 0 := hm
  rcases outL_cases h hb ht with ⟨h1, h2⟩ | ⟨h1, h2⟩
  · have hw := (h.way _ _ h1).2.1
    obtain ⟨g, hg, hle⟩ := k.all _ _ (Way.turned hc hw) (fun h => by omega)
    have hw2 := back (k.way _ _ hg).2.1
    obtain ⟨g2, hg2, hle2⟩ := h.all _ _ hw2 (fun h => by omega)
    have e := h.one hg2 h1
    have e2 := outL_at (N := x.N) k.nodup hs hg
    omega
  · rw [h1]
    refine outL_no hs (fun hmem => ?_)
    obtain ⟨⟨u, f⟩, hp, rfl⟩ := List.mem_map.1 hmem
    have hw2 := back (k.way _ _ hp).2.1
    obtain ⟨g2, hg2, _⟩ := h.all _ _ hw2 (fun h => by omega)
    exact h2 g2 hg2
theorem Way.ge {x : Srch} {s : Nat} (d : Nat → Nat) (h0 : d s = 0) (hd : ∀ i, i < x.E.length → d (toE x i) ≤ d (nN x.E x.back i) + gn x.W i) {v f : Nat} (h : Way x s v f) : d v ≤ f := by
  induction h with
  | here => omega
  | step h hi hc ih =>
    have := hd _ hi
    omega
end Go.Proofs.Ytgplpgldhoelcaa

namespace Go.Proofs.Ytgplpgldhoelcaa
open Go Go.RowKit
def lightG (N : Int) (n : Nat) : Bool := decide ((N ≤ 100 ∨ 4096 < N) ∧ n ≤ 300)
set_option maxHeartbeats 400000 in
theorem lLight (N : Int) (A : Option Addr) (n c : Nat) (w : World) : Calls Try.prog 24 #[.agg #[.int .i64 N, .slice A n c]] w fun e w' => e = .returned (.bool (lightG N n)) ∧ Grows w w' := by
  go_enter Try.func24, Try.ntmps24
  go_wp2
  all_goals go_ret
  all_goals exact ⟨ret_bool (bool_ext (by unfold lightG; simp; try omega)), GG⟩

end Go.Proofs.Ytgplpgldhoelcaa

namespace Go.Proofs.Ytgplpgldhoelcaa
open Go Go.RowKit
theorem Far.is {x : Srch} {s mw v f : Nat} {xs : List (Nat × Nat)} (h : Far x s mw xs) (hm : x.most = 0) (hv : v < x.N) (h1 : Way x s v f) (h2 : ∀ g, Way x s v g → f ≤ g) : gn (outL x.N xs) v = f := by
  obtain ⟨g, hg, hle⟩ := h.all _ _ h1 (fun h => by omega)
  have := h2 g (h.way _ _ hg).2.1
  rw [outL_at h.nodup hv hg]
  omega
theorem walk_is {N s mw : Nat} {E : List Edg} {o : DOpt} (hok : WalkOk N s E o) (hw : ∀ i, i < E.length → 1 ≤ gn (wtF N E o.W) i ∧ gn (wtF N E o.W) i ≤ mw) (hmw : mw ≤ 17592186044416) (hnn : (s : Int) ∉ o.nn) :
    ∃ xs, (if (s : Int) ∈ o.nn then xs = [] else Trace (srchOf N E o) (reachS o.most (st0 N) s 0) xs) ∧ Far (srchOf N E o) s mw xs ∧ ∀ p, p ∈ xs → p.1 < N := by
  have hs := hok.srch
  have hin : SrchIn (srchOf N E o) mw := ⟨fun i hi => by
    have h1 := hs.ends.f i hi
    have h2 := hs.ends.t i hi
    unfold toE
    split
    · exact h1.1
    · exact h2.1, fun i hi => (hw i hi).1, fun i hi => (hw i hi).2⟩
  obtain ⟨xs, h1, h2⟩ := trace_whole (x := srchOf N E o) (s := s) hin hs.nodes hok.node (by omega)
  refine ⟨xs, by rw [if_neg hnn]; exact h1, h2, fun p hp => ?_⟩
  obtain ⟨v, f⟩ := p
  exact (h2.way v f hp).1
end Go.Proofs.Ytgplpgldhoelcaa

namespace Go.Proofs.Ytgplpgldhoelcaa
open Go Go.ChangeShapes Go.WideShapes Go.ChangeAt Go.RowKit Go.Deep
section
variable {H : Type} {enc : TypeId × Value → H} {P : Program} {w : World} {base b0 : Nat} {held : Bool} {r : Reach} {t : TypeId} {v : Value} {d : DataW H} {p : List MemPlace}
theorem open_numsF {e : TypeId} {k : IntKind} {fuel : Nat} {x : DataW H × List MemPlace} {cs : List Value} (ht : P.underlying t = some (.slice e)) (he : P.underlying e = some (.int k)) (hc : P.cellsOf e = 1)
    (h : DataW.trod enc P w base (fun _ => true) held fuel t cs = some x) :
    ∃ (A : Option Addr) (n c : Nat) (zs : List Int), cs = [.slice A n c] ∧ n ≤ c ∧ Rd w A 1 n (zs.map (.int k)) ∧ ∀ z ∈ zs, (Lit.int k z).wf = true := by
  obtain ⟨A, n, c, F, rfl, hl, _, hr, hF⟩ := open_elems ht hc (by omega) h
  have hE : ∀ i, i < n → ∃ z : Int, F i = [.int k z] ∧ (Lit.int k z).wf = true := fun i hi => by
    obtain ⟨_, m, y, hy⟩ := hF i hi
    obtain ⟨z, hz, _, hw⟩ := DataW.trod_int he hy
    exact ⟨z, hz, hw⟩
  obtain ⟨f, hf⟩ := Deep.choose_lt (α := Option Int) (p := fun i o => ∃ z, o = some z ∧ F i = [.int k z] ∧ (Lit.int k z).wf = true) (fun i hi => by obtain ⟨z, h⟩ := hE i hi; exact ⟨some z, z, rfl, h⟩)
  have hf' : ∀ i, i < n → F i = [.int k ((f i).getD 0)] ∧ (Lit.int k ((f i).getD 0)).wf = true := fun i hi => by
    obtain ⟨z, h1, h2⟩ := hf i hi
    rw [h1]
    exact h2
  refine ⟨A, n, c, (List.range n).map fun i => (f i).getD 0, rfl, hl, ?_, fun z hz => ?_⟩
  · have e : ((List.range n).map fun i => (f i).getD 0).map (Value.int k) = (List.range n).flatMap F := by
      rw [List.map_map, List.flatMap_def]
      have h2 : (List.range n).map F = (List.range n).map fun i => [Value.int k ((f i).getD 0)] := List.map_congr_left fun i hi => (hf' i (List.mem_range.1 hi)).1
      rw [h2, ← List.flatMap_def]
      clear h2 hr hF hE hf hf' h
      generalize List.range n = l
      induction l with
      | nil => rfl
      | cons a l ih => rw [List.map_cons, List.flatMap_cons, ih]; rfl
    rw [e]
    exact hr
  · obtain ⟨i, hi, rfl⟩ := List.mem_map.1 hz
    exact (hf' i (List.mem_range.1 hi)).2
end
end Go.Proofs.Ytgplpgldhoelcaa

namespace Go.Proofs.Ytgplpgldhoelcaa
open Go Go.RowKit
set_option maxHeartbeats 1000000 in
theorem r1Has (A : Option Addr) (n c : Nat) (l : List Int) (v : Int) (w : World) (h : Rd w A 1 n (l.map (.int .i64))) (hn : n ≤ 1000000) :
    Calls Try.prog 35 #[.slice A n c, .int .i64 v] w fun e w' => e = .returned (.bool (decide (v ∈ l))) ∧ w = w' := by
  have HL := hide (show l.length = n by simpa using h.len)
  have HR := hide h
  clear h
  go_enter Try.func35, Try.ntmps35
  go_wp2
  go_loop [5] (fun i => ∃ k : Nat, k ≤ n ∧ i = .int .i64 (k : Int) ∧ ∀ j, j < k → gi l j ≠ v) (fun i => n - (intOf i).toNat)
  case atStart => exact ⟨0, by omega, by go_num, fun j h1 => by omega⟩
  case round =>
    obtain ⟨q, hq, rfl, hall⟩ := hrel
    have HA := hide hall
    clear hall
    by_cases hend : n ≤ q
    · go_wp2
      go_ret
      refine ⟨ret_bool (decide_eq_false fun hm => ?_).symm, rfl⟩
      obtain ⟨j, hj, e⟩ := mem_gi hm
      exact HA.out j (by have := HL.out; omega) e
    · obtain ⟨b, off, rfl, hc⟩ := HR.out.ints (by omega)
      have hc1 := hc q (by omega)
      clear hc
      by_cases hv : gi l q = v
      · have HV := hide (show v ∈ l from hv ▸ gi_mem (by have := HL.out; omega))
        have hd : (gi l q == v) = true := by simpa using hv
        clear hv
        go_wp2
        go_ret
        exact ⟨ret_bool (decide_eq_true HV.out).symm, rfl⟩
      · have HV := hide hv
        have hd : (gi l q == v) = false := by simpa using hv
        clear hv
        go_wp2
        go_round
        case measure => simp [intOf]; omega
        case rel =>
          refine ⟨q + 1, by omega, by go_num, fun j h1 => ?_⟩
          by_cases hj : j = q
          · rw [hj]; exact HV.out
          · exact HA.out j (by omega)

end Go.Proofs.Ytgplpgldhoelcaa

