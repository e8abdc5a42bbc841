/- Contract: what demands do, by the program. -/
import Derived.Test.YtkfobolbilhjbaaGreatQFlowRounds05
import Derived.Test.YtkfobolbilhjbaaGreatQFlowRounds06
import Derived.Test.YtkfobolbilhjbaaGreatQFlowRounds11
import Derived.Test.YtkfobolbilhjbaaGreatQFlowRounds14
namespace Go.Proofs.YtkfobolbilhjbaaGreat
open Go Go.RowKit
def asgR (N : Int) (E D : List Edg) (o : DOpt) (P : Ways) : List Int × Int × Int :=
  if fRightF N E D ≠ 0 then ([], 0, fRightF N E D) else if dcF N 0 E o.W ≠ 0 then ([], 0, dcF N 0 E o.W) else ((asgS D P E.length D.length).1, (asgS D P E.length D.length).2, 0)
def AsgP (w : World) (L : List Int) (lost f : Int) (e : Ending) (w' : World) : Prop := ∃ A c, e = .returned (.tuple #[.agg #[.slice A L.length c, .int .u64 lost], .int .i64 f]) ∧ Rd w' A 1 L.length (uv L) ∧ (∀ p, A = some p → w.heap.size ≤ p.block) ∧ Grows w w'
def AsgI (w : World) (b3 b5 b6 g : Nat) (G O : List Value) (n : Nat) (L : List Int) (lost : Int) (W : World) : Prop :=
  (∃ y : Later w, W = y.now) ∧ Arr W b3 24 G ∧ Arr W b5 50 O ∧ Arr W b6 33 [.slice (some ⟨g, 0, none⟩) n n, .int .u64 lost] ∧ Arr W g 26 (uv L)
set_option maxRecDepth 40000 in
set_option maxHeartbeats 16000000 in
theorem fAssign (N : Int) (A : Option Addr) (c : Nat) (E : List Edg) (B : Option Addr) (d : Nat) (D : List Edg) (o : DOpt) (An Ae Aw : Option Addr) (cn ce cw : Nat) (P : Ways) (w : World) (h : Rd w A 3 E.length (esCells E)) (hD : Rd w B 3 D.length (esCells D)) (h2 : Rd w An 1 o.nn.length (o.nn.map (.int .i64))) (h3 : Rd w Ae 1 o.ne.length (o.ne.map (.int .i64))) (h4 : Rd w Aw 1 o.W.length (wv o.W))
    (hn : E.length ≤ 1000000) (hn3 : o.W.length ≤ 1000000) (hd : D.length ≤ 1000000) (hP : WaysOf E o N D P) :
    Calls Tryz.prog 14 #[.agg #[.int .i64 N, .slice A E.length c], .slice B D.length d, oVal o.back (.slice An o.nn.length cn) (.slice Ae o.ne.length ce) Aw o.W.length cw o.most] w (AsgP w (asgR N E D o P).1 (asgR N E D o P).2.1 (asgR N E D o P).2.2) := by
  have C1 := hide (fun (W : World) (g : Grows w W) => fRight N A c E B d D W (h.grows g) (hD.grows g) hn hd)
  have C2 := hide (fun (W : World) (g : Grows w W) => show Calls Tryz.prog 26 #[.agg #[.int .i64 N, .slice A E.length c], .int .i64 0, .agg #[.bool o.back, .slice An o.nn.length cn, .slice Ae o.ne.length ce, .slice Aw o.W.length cw, .int .u64 (o.most : Int)]] W fun e w' => e = .returned (.int .i64 (dcF N 0 E o.W)) ∧ Grows W w' from djCheck N 0 A E.length c E o.back (.slice An o.nn.length cn) (.slice Ae o.ne.length ce) Aw o.W.length cw o.most o.W W (h.grows g) (h4.grows g) hn hn3)
  unfold oVal
  by_cases hf : fRightF N E D = 0
  · by_cases hc : dcF N 0 E o.W = 0
    · have e1 : asgR N E D o P = ((asgS D P E.length D.length).1, (asgS D P E.length D.length).2, 0) := by unfold asgR; rw [if_neg (by omega), if_neg (by omega)]
      rw [e1]
      rw [hf] at C1
      rw [hc] at C2
      have HD := hide hD
      have HP := hide hP
      have K1 := hide (fun (k : Nat) (hk : k < D.length) (W1 : World) (g : Grows w W1) => show Calls Tryz.prog 28 #[.agg #[.int .i64 N, .slice A E.length c], .int .i64 (ge D k).f, .int .i64 (ge D k).t, .agg #[.bool o.back, .slice An o.nn.length cn, .slice Ae o.ne.length ce, .slice Aw o.W.length cw, .int .u64 (o.most : Int)]] W1 fun e w' =>
          ∃ A' c', e = .returned (.tuple #[.agg #[.slice A' (P k).1.length c', .int .u64 ((P k).2.1 : Int)], .int .i64 (P k).2.2]) ∧ Own w' W1.heap.size 3 1 A' (P k).1.length c' (nv (P k).1) ∧ Grows W1 w' from
        caPath N _ _ A c E o An Ae Aw cn ce cw _ _ _ W1 (h.grows g) (h2.grows g) (h3.grows g) (h4.grows g) hn hn3 (hP k hk))
      clear e1 h h2 h3 h4 hD hP hf hc
      have hm : E.length ≤ 1000000 := hn
      generalize o.most = mo at *
      generalize o.back = back at *
      go_enter Tryz.func14, Tryz.ntmps14
      go_wp2_with fail
      refine (C1.out _ GG).mono ?_; rintro e w' ⟨rfl, hg⟩; obtain ⟨x1, rfl⟩ := Grows.later hg; clear hg
      go_wp2_with fail
      refine (C2.out _ GG).mono ?_; rintro e W0 ⟨rfl, hg⟩
      have a3 : Arr W0 w.heap.size 24 [.int .i64 N, .slice A E.length c] := Arr.grow ⟨by simp [heap_push, Array.getElem_push, Array.getElem?_push, eq_add2]⟩ (x1.grows.trans hg)
      have a5 : Arr W0 (w.heap.size + 1) 50 [.bool back, .slice An o.nn.length cn, .slice Ae o.ne.length ce, .slice Aw o.W.length cw, .int .u64 (mo : Int)] := Arr.grow ⟨by simp [heap_push, Array.getElem_push]⟩ (x1.grows.trans hg)
      have a6 : Arr W0 (w.heap.size + 1 + 1) 33 [.slice none 0 0, .int .u64 0] := Arr.grow ⟨by simp [heap_push, Array.getElem_push]⟩ (x1.grows.trans hg)
      have hgw : Grows w W0 := Grows.trans (by show Grows w x1.now; exact GG) hg
      clear hg C1 C2
      obtain ⟨lo, hlo⟩ : ∃ lo, w.heap.size = lo := ⟨_, rfl⟩
      have hl3 : w.heap.size ≤ lo := by omega
      have hl6 : lo < lo + 1 ∧ lo + 1 < lo + 1 + 1 := by omega
      rw [hlo] at a3 a5 a6 ⊢
      clear hlo
      generalize lo + 1 + 1 = b6 at *
      generalize lo + 1 = b5 at *
      obtain ⟨y0, rfl⟩ := hgw.later
      clear hgw
      have mk := run_makeU64s E.length (by omega)
      have hb6 := a6.ty.lt
      go_wp2_with fail
      have hgr := y0.grows.size
      have HI0 : Hid (AsgI w lo b5 b6 y0.now.heap.size [.int .i64 N, .slice A E.length c] [.bool back, .slice An o.nn.length cn, .slice Ae o.ne.length ce, .slice Aw o.W.length cw, .int .u64 (mo : Int)] E.length (asgS D P E.length 0).1 (asgS D P E.length 0).2
          ((y0.now.setCell ⟨b6, 0, none⟩ (.slice (some ⟨y0.now.heap.size, 0, none⟩) E.length E.length)).alloc (.cells (Array.replicate E.length (Value.int .u64 0)) 26))) := by
        refine ⟨⟨⟨_, (y0.grows.set (p := ⟨b6, 0, none⟩) (by show _ ≤ b6; omega) _).new _⟩, rfl⟩, (a3.other (p := ⟨b6, 0, none⟩) (by show b6 ≠ lo; omega) _).grow ((Grows.refl _).new _), (a5.other (p := ⟨b6, 0, none⟩) (by show b6 ≠ b5; omega) _).grow ((Grows.refl _).new _), (a6.set 0 _).grow ((Grows.refl _).new _), ?_⟩
        have := Arr.make (y0.now.setCell ⟨b6, 0, none⟩ (.slice (some ⟨y0.now.heap.size, 0, none⟩) E.length E.length)) (List.replicate E.length (Value.int .u64 0)) 26
        rw [size_setCell] at this
        simpa [uv, asgS] using this
      clear a3 a5 a6 mk
      have hgb : b6 < y0.now.heap.size := hb6
      generalize hgg : y0.now.heap.size = g at *
      clear hgg hb6
      go_loopw [37] (fun i wr => ∃ k : Nat, k ≤ D.length ∧ i = .int .i64 (k : Int) ∧ AsgI w lo b5 b6 g [.int .i64 N, .slice A E.length c] [.bool back, .slice An o.nn.length cn, .slice Ae o.ne.length ce, .slice Aw o.W.length cw, .int .u64 (mo : Int)] E.length (asgS D P E.length k).1 (asgS D P E.length k).2 wr) (fun i _ => D.length - (Go.RowKit.intOf i).toNat)
      case atStart => exact ⟨0, by omega, by go_num, HI0.out⟩
      case round =>
        clear HI0
        obtain ⟨k, hk, rfl, ⟨y, rfl⟩, a3, a5, a6, ag⟩ := hrel
        have HGL := ag.ty.lt
        by_cases hlt : k < D.length
        · obtain ⟨bD, oD, rfl, hcc⟩ := HD.out.edgesH (by omega)
          obtain ⟨z1, z2, z3⟩ := hcc k hlt
          have hle : (asgS D P E.length k).1.length = E.length := asgS_len D P E.length k
          have HLE := hide hle
          have HAG := hide ag
          clear hcc ag hle
          go_wp2_with fail
          refine (K1.out k hlt _ GG).mono ?_; rintro e W1 ⟨A', c', rfl, ho, hg⟩
          have gn1 := ((Grows.refl y.now).new (.cells #[.int .i64 (ge D k).f, .int .i64 (ge D k).t, .int .u64 (ge D k).w] 55)).trans hg
          have a12 : Arr W1 y.now.heap.size 55 [.int .i64 (ge D k).f, .int .i64 (ge D k).t, .int .u64 (ge D k).w] := (Arr.make _ _ _).grow hg
          replace a3 := a3.grow gn1
          replace a5 := a5.grow gn1
          replace a6 := a6.grow gn1
          have HAG := hide (HAG.out.grow gn1)
          have HO := hide ho
          have hyg := y.grows.trans gn1
          have hys := y.grows.size
          have hgy := a12.ty.lt
          have hyl := (HAG.out.ty.lt)
          have hb12 : g < y.now.heap.size := HGL
          clear ho hg gn1
          generalize y.now.heap.size = b12 at *
          obtain ⟨y1, rfl⟩ := hyg.later
          clear hyg
          by_cases hr : (P k).2.2 = 0
          · have hS1 : asgS D P E.length (k + 1) = (addAt (asgS D P E.length k).1 (ge D k).w (P k).1, (asgS D P E.length k).2) := by rw [asgS, if_pos hr]
            have HS1 := hide hS1
            have hsh : (P k).1.length ≤ 1000000 := by have := (HP.out k hlt).short.1; omega
            have hed := (HP.out k hlt).edges
            rw [← HLE.out] at hed
            have CL := hide (fun (W : World) (g1 : Grows y1.now W) => fAssign1 A' c' (P k).1 (ge D k).w b6 g (asgS D P E.length k).1 (.int .u64 (asgS D P E.length k).2) W (HO.out.rd.grows g1) hsh (by rw [HLE.out]; exact a6.grow g1) (HAG.out.grow g1) hed (HAG.out.own_ne HO.out (by decide)))
            have hr9 : ((P k).2.2 == 0) = true := by simp [hr]
            rw [hr]
            clear hS1 hr hr9 K1 hsh hed HO HAG
            generalize asgS D P E.length k = S at *
            go_wp2_with fail
            refine (CL.out _ ((Grows.refl _).new _)).mono ?_; rintro e W3 ⟨⟨v, rfl⟩, ag3, ht⟩
            have hyg3 : Grows w W3 := ht.later (y1.grows.new _) (fun k hk => by rw [hk]; omega)
            replace a3 := (a3.grow ((Grows.refl _).new (.cells #[.slice A' (P k).1.length c', .int .u64 ((P k).2.1 : Int)] 69))).touch ht (by omega)
            replace a5 := (a5.grow ((Grows.refl _).new (.cells #[.slice A' (P k).1.length c', .int .u64 ((P k).2.1 : Int)] 69))).touch ht (by omega)
            replace a6 := (a6.grow ((Grows.refl _).new (.cells #[.slice A' (P k).1.length c', .int .u64 ((P k).2.1 : Int)] 69))).touch ht (by omega)
            have HAG3 := hide ag3
            clear ht ag3 CL
            obtain ⟨y3, rfl⟩ := hyg3.later
            clear hyg3
            go_wp2_with fail
            go_roundw
            case measure => simp [Go.RowKit.intOf]; omega
            case rel =>
              refine ⟨k + 1, by omega, by go_num, ?_⟩
              rw [HS1.out]
              exact ⟨⟨_, rfl⟩, a3, a5, a6, HAG3.out⟩
          · have hS1 : asgS D P E.length (k + 1) = ((asgS D P E.length k).1, IntKind.u64.wrap ((asgS D P E.length k).2 + (ge D k).w)) := by rw [asgS, if_neg hr]
            have HS1 := hide hS1
            have hr9 : ((P k).2.2 == 0) = false := beq_eq_false_iff_ne.2 hr
            clear hS1 hr K1
            generalize asgS D P E.length k = S at *
            go_wp2_with fail
            go_roundw
            case measure => simp [Go.RowKit.intOf]; omega
            case rel =>
              refine ⟨k + 1, by omega, by go_num, ?_⟩
              rw [HS1.out]
              exact ⟨⟨⟨_, (y1.grows.new _).set (p := ⟨b6, 1, none⟩) (by show _ ≤ b6; omega) _⟩, rfl⟩, (a3.grow ((Grows.refl _).new _)).other (p := ⟨b6, 1, none⟩) (by show b6 ≠ lo; omega) _, (a5.grow ((Grows.refl _).new _)).other (p := ⟨b6, 1, none⟩) (by show b6 ≠ b5; omega) _, (a6.grow ((Grows.refl _).new _)).set 1 _, (HAG.out.grow ((Grows.refl _).new _)).other (p := ⟨b6, 1, none⟩) (by show b6 ≠ g; omega) _⟩
        · have hkk : k = D.length := by omega
          subst hkk
          have HLE := hide (asgS_len D P E.length D.length)
          have HAG := hide ag
          clear ag
          generalize asgS D P E.length D.length = S at *
          go_wp2_with fail
          refine bodyPost_ret (v := .tuple #[.agg #[.slice (some ⟨g, 0, none⟩) E.length E.length, .int .u64 S.2], .int .i64 0]) (by simp (maxDischargeDepth := 6) [results, Tryz.results14, go_sem, *]) rfl ?_
          have hag := (HAG.out.other (p := ⟨b6, 0, none⟩) (by show b6 ≠ g; omega) (.slice (some ⟨g, 0, none⟩) E.length E.length)).other (p := ⟨b6, 1, none⟩) (by show b6 ≠ g; omega) (.int .u64 S.2)
          refine ⟨some ⟨g, 0, none⟩, E.length, by rw [HLE.out], hag.rd (by rw [uv_len]; omega), fun p hp => (by injection hp with hp; subst hp; show _ ≤ g; omega), (y.grows.set (p := ⟨b6, 0, none⟩) (by show _ ≤ b6; omega) _).set (p := ⟨b6, 1, none⟩) (by show _ ≤ b6; omega) _⟩
    · have e1 : asgR N E D o P = ([], 0, dcF N 0 E o.W) := by unfold asgR; rw [if_neg (by omega), if_pos hc]
      rw [e1]
      rw [hf] at C1
      have hr9 : (dcF N 0 E o.W == 0) = false := beq_eq_false_iff_ne.2 hc
      clear e1 h h2 h3 h4 hD hP hf hc
      generalize dcF N 0 E o.W = r at *
      generalize o.most = mo at *
      generalize o.back = back at *
      go_enter Tryz.func14, Tryz.ntmps14
      go_wp2_with fail
      refine (C1.out _ GG).mono ?_; rintro e w' ⟨rfl, hg⟩; obtain ⟨x1, rfl⟩ := Grows.later hg; clear hg
      go_wp2_with fail
      refine (C2.out _ GG).mono ?_; rintro e W0 ⟨rfl, hg⟩; obtain ⟨x2, hx2⟩ : ∃ x2 : Later x1.now, W0 = x2.now := hg.later; subst hx2; clear hg
      go_wp2_with fail
      refine bodyPost_ret (v := .tuple #[.agg #[.slice none 0 0, .int .u64 0], .int .i64 r]) (by simp (maxDischargeDepth := 6) [results, Tryz.results14, go_sem, *]) rfl ?_
      exact ⟨none, 0, rfl, ⟨rfl, fun h => absurd h (by simp)⟩, fun p hp => (by cases hp), GG⟩
  · have e1 : asgR N E D o P = ([], 0, fRightF N E D) := by unfold asgR; rw [if_pos hf]
    rw [e1]
    have hr9 : (fRightF N E D == 0) = false := beq_eq_false_iff_ne.2 hf
    clear e1 h h2 h3 h4 hD hP hf
    generalize fRightF N E D = r at *
    generalize o.most = mo at *
    generalize o.back = back at *
    go_enter Tryz.func14, Tryz.ntmps14
    go_wp2_with fail
    refine (C1.out _ GG).mono ?_; rintro e w' ⟨rfl, hg⟩; obtain ⟨x1, rfl⟩ := Grows.later hg; clear hg
    go_wp2_with fail
    refine bodyPost_ret (v := .tuple #[.agg #[.slice none 0 0, .int .u64 0], .int .i64 r]) (by simp (maxDischargeDepth := 6) [results, Tryz.results14, go_sem, *]) rfl ?_
    exact ⟨none, 0, rfl, ⟨rfl, fun h => absurd h (by simp)⟩, fun p hp => (by cases hp), GG⟩
end Go.Proofs.YtkfobolbilhjbaaGreat

namespace Go.Proofs.YtkfobolbilhjbaaGreat
open Go Go.RowKit
def wtI (E : List Edg) (L : List Nat) (a b : Int) (i : Nat) : Nat := min ((ge E i).w.toNat + upV (gn L i) a b maxPen) maxPen
def wtsL (E : List Edg) (L : List Nat) (a b : Int) : List Nat := (List.range E.length).map (wtI E L a b)
theorem wtsL_len (E : List Edg) (L : List Nat) (a b : Int) : (wtsL E L a b).length = E.length := by simp [wtsL]
theorem wtsL_take (E : List Edg) (L : List Nat) (a b : Int) (k : Nat) (hk : k < E.length) : (wtsL E L a b).take (k + 1) = (wtsL E L a b).take k ++ [wtI E L a b k] := by
  have h : k < (wtsL E L a b).length := by rw [wtsL_len]; exact hk
  rw [List.take_succ_eq_append_getElem h]
  simp [wtsL]
def wfF (N : Int) (E : List Edg) (L : List Nat) (a b : Int) : Int := if rightF N E ≠ 0 ∨ L.length ≠ E.length ∨ rrB a b = false then 1 else 0
def wfR (N : Int) (E : List Edg) (L : List Nat) (a b : Int) : List Nat := if rightF N E ≠ 0 ∨ L.length ≠ E.length ∨ rrB a b = false then [] else wtsL E L a b
theorem wfR_len (N : Int) (E : List Edg) (L : List Nat) (a b : Int) : (wfR N E L a b).length ≤ E.length := by
  unfold wfR
  split
  · exact Nat.zero_le _
  · rw [wtsL_len]; exact Nat.le_refl _
def ldN (R : List Int × Int × Int) : List Nat := R.1.map Int.toNat
structure RdOk (N : Int) (E D : List Edg) (a b : Int) (W : Nat → List Nat) (P : Nat → Ways) : Prop where
  w0 : W 0 = []
  ws : ∀ k, W (k + 1) = wfR N E (ldN (asgR N E D ⟨false, [], [], W k, 0⟩ (P k))) a b
  ps : ∀ k, WaysOf E ⟨false, [], [], W k, 0⟩ N D (P k)
theorem rounds_any (N : Int) (E D : List Edg) (a b : Int) : ∃ W P, RdOk N E D a b W P := by
  have hany : ∀ X : List Nat, ∃ P, WaysOf E ⟨false, [], [], X, 0⟩ N D P := fun X => ways_any E ⟨false, [], [], X, 0⟩ N D (by show 0 ≤ _; omega) (by show 0 ≤ _; omega)
  let pick : List Nat → Ways := fun X => Classical.choose (hany X)
  have hpick : ∀ X, WaysOf E ⟨false, [], [], X, 0⟩ N D (pick X) := fun X => Classical.choose_spec (hany X)
  let st : Nat → List Nat := fun k => Nat.rec [] (fun _ X => wfR N E (ldN (asgR N E D ⟨false, [], [], X, 0⟩ (pick X))) a b) k
  exact ⟨st, fun k => pick (st k), rfl, fun k => rfl, fun k => hpick _⟩
theorem RdOk.wlen {N : Int} {E D : List Edg} {a b : Int} {W : Nat → List Nat} {P : Nat → Ways} (h : RdOk N E D a b W P) (k : Nat) : (W k).length ≤ E.length := by
  cases k with
  | zero => rw [h.w0]; exact Nat.zero_le _
  | succ k => rw [h.ws]; exact wfR_len _ _ _ _ _
def rdF (N : Int) (E D : List Edg) (a b n : Int) : Int := if fRightF N E D ≠ 0 then fRightF N E D else if rrB a b = false then 1 else if n < 1 ∨ 100 < n then 2 else 0
def rdR (N : Int) (E D : List Edg) (a b n : Int) (W : Nat → List Nat) (P : Nat → Ways) : List Int × Int × Int :=
  if rdF N E D a b n ≠ 0 then ([], 0, rdF N E D a b n) else ((asgR N E D ⟨false, [], [], W (n.toNat - 1), 0⟩ (P (n.toNat - 1))).1, (asgR N E D ⟨false, [], [], W (n.toNat - 1), 0⟩ (P (n.toNat - 1))).2.1, 0)
end Go.Proofs.YtkfobolbilhjbaaGreat

namespace Go.Proofs.YtkfobolbilhjbaaGreat
open Go Go.RowKit
theorem elemDem : Elem 37 55 3 := by
  have h : (Tryz.prog.info? 55).map (fun i => (i.zero, i.size, i.bytes)) = some (some (.agg #[.int .i64 0, .int .i64 0, .int .u64 0]), 3, 24) := by kernel_rfl
  obtain ⟨i, hi, hz, hs, hb⟩ := info_parts h
  exact ⟨Tryz.underlying37, ⟨i, _, 24, hi, hz, hs, hb, rfl, by omega⟩, by omega⟩
theorem ge_take_succ {L : List Edg} {k : Nat} (hk : k < L.length) : L.take (k + 1) = L.take k ++ [ge L k] := by
  rw [List.take_succ_eq_append_getElem hk]
  have : ge L k = L[k] := by simp [ge, hk]
  rw [this]
theorem esCells_snoc (L : List Edg) (e : Edg) : esCells (L ++ [e]) = esCells L ++ eCells e := by simp [esCells]
def GiveD (w : World) (t : TypeId) (L : List Edg) (e : Ending) (w' : World) : Prop := ∃ A c, e = .returned (.slice A L.length c) ∧ Own w' w.heap.size t 3 A L.length c (esCells L) ∧ Grows w w'
theorem e3_new {w : World} {g : Nat} {a b c : Value} (h1 : Holds w ⟨g, 0, none⟩ a) (h2 : Holds w ⟨g, 1, none⟩ b) (h3 : Holds w ⟨g, 2, none⟩ c) : ∀ j u, ([a, b, c] : List Value)[j]? = some u → w.cell? ⟨g, j, none⟩ = some u := by
  intro j u hu
  have hj : j < 3 := by have := (List.getElem?_eq_some_iff.1 hu).1; simpa using this
  match j, hj with
  | 0, _ => simp at hu; subst hu; exact h1.cell
  | 1, _ => simp at hu; subst hu; exact h2.cell
  | 2, _ => simp at hu; subst hu; exact h3.cell
def Three (v u x : Value) : Pr := fun y w => ∃ g, y = .slice (some ⟨g, 0, none⟩) 1 1 ∧ Holds w ⟨g, 0, none⟩ v ∧ Holds w ⟨g, 1, none⟩ u ∧ Holds w ⟨g, 2, none⟩ x
theorem Three.lasts (v u x : Value) : Lasts (Three v u x) := fun _ _ _ hg ⟨g, e, h, h2, h3⟩ => ⟨g, e, ⟨hg.keeps h.cell⟩, ⟨hg.keeps h2.cell⟩, ⟨hg.keeps h3.cell⟩⟩
set_option maxRecDepth 20000 in
set_option maxHeartbeats 4000000 in
theorem law47of (B : Option Addr) (m d : Nat) (L : List Edg) (w : World) (hc : Rd w B 3 m (esCells L)) (hm : m ≤ 1000000) :
    Calls Tryz.prog 7 #[.slice B m d] w (GiveD w 55 L) := by
  have HLm := hide hc.elen
  have HC := hide hc
  clear hc
  go_enter Tryz.func7, Tryz.ntmps7
  go_wp2_with fail
  go_loopw [4, 3] (fun i u wr => ∃ k : Nat, k ≤ m ∧ i = .int .i64 (k : Int) ∧ ∃ y : Later w, wr = y.now ∧ ∃ A1 c1, u = .slice A1 k c1 ∧ Own y.now w.heap.size 55 3 A1 k c1 (esCells (L.take k))) (fun i _ _ => m - (intOf i).toNat)
  case atStart => exact ⟨0, by omega, by go_num, ⟨_, Grows.refl _⟩, rfl, none, 0, rfl, Own.nil _ _ _ _⟩
  case round =>
    obtain ⟨k, hk, rfl, y, rfl, A1, c1, rfl, hown⟩ := hrel
    have HO := hide hown
    clear hown
    by_cases hend : m ≤ k
    · have hkm : k = m := by omega
      subst hkm
      go_wp2
      go_ret
      refine ⟨A1, c1, by rw [HLm.out]; rfl, ?_, GG⟩
      have := HO.out
      rw [← HLm.out, List.take_length] at this
      rw [HLm.out] at this ⊢
      exact this
    · obtain ⟨b, off, rfl, hcc⟩ := HC.out.edgesH (by omega)
      obtain ⟨c2, c3, c4⟩ := hcc k (by omega)
      clear hcc
      have HN := hide (ge_take_succ (L := L) (k := k) (by rw [HLm.out]; omega))
      generalize ge L k = x at *
      obtain ⟨e, v, u⟩ := x
      dsimp only at c2 c3 c4
      go_wp2_with fail
      (refine wp_region_tail1 18 (by kernel_rfl) (by kernel_rfl) ?_; simp only [List.take_succ_cons, List.take_zero, List.drop_succ_cons, List.drop_zero]; (repeat' ((first | refine gLex_val0 rfl (by kernel_rfl) (fun K hK => ?_) | refine gLex_undef rfl rfl rfl (by kernel_rfl) (fun K hK => ?_) | (refine gLex_ask rfl rfl rfl ?_; first | (apply gAsk_yes; kernel_rfl; intro K hK) | ((first | apply gAsk_no1 | apply gAsk_no2); kernel_rfl; intro K hK))) <;> (go_simp; (try (simp only [↓IntWalk.iteOmega]; try go_simp)); (try simp (disch := omega) only [IntWalk.i64_in]); (try simp (disch := omega) only [IntWalk.u64_in]); refine hK _ ?_; clear hK K))); refine gLex_prop rfl (by kernel_rfl) rfl (by simp) (Three (.int .i64 e) (.int .i64 v) (.int .u64 u)) (Three.lasts _ _ _) (fun x => by (go_simp; exact ⟨(Grows.refl _).new _, _, rfl, inferInstance, inferInstance, inferInstance⟩)) ?_; refine gLex_endT1 (by simp) (fun x v hv => ?_); obtain ⟨gnew, rfl, hgnew, hgnew2, hgnew3⟩ := hv; simp only [Act.put, List.setIfInBounds_toArray, List.set_cons_zero, List.set_cons_succ])
      go_wp2_with (at_builtin; refine wp_appS elemDem rfl _ _ rfl w GG k c1 A1 _ rfl (HO.out.grows GG) _ _ [.int .i64 e, .int .i64 v, .int .u64 u] rfl rfl (e3_new hgnew hgnew2 hgnew3) (by intro u hu; simp at hu; rcases hu with rfl | rfl | rfl <;> rfl) (by omega) ?_; intro A3 c3 y3 hown3; have HO3 := hide hown3; clear hown3)
      refine ⟨⟨k + 1, by omega, by go_num, y3, rfl, A3, c3, rfl, ?_⟩, by simp [intOf]; omega⟩
      rw [HN.out, esCells_snoc]
      exact HO3.out
def light47 (N : Int) (n m : Nat) : Bool := light14 N n 0 0 0 && decide (N ≤ 12 ∨ 4096 < N) && decide (n ≤ 60) && decide (m ≤ 20 ∨ (1000 < m ∧ m < 1100))
set_option maxRecDepth 20000 in
set_option maxHeartbeats 4000000 in
theorem lLight47 (N : Int) (A : Option Addr) (n c : Nat) (B : Option Addr) (m d : Nat) (w : World) : Calls Tryz.prog 4 #[.agg #[.int .i64 N, .slice A n c], .slice B m d] w fun e w' => e = .returned (.bool (light47 N n m)) ∧ Grows w w' := by
  have CL := fun (W1 : World) => lLight14 N A n c false none none none 0 0 0 0 0 0 0 W1
  unfold oVal at CL
  cases h1 : light14 N n 0 0 0 with
  | false =>
    rw [h1] at CL
    have HW : Hid (light47 N n m = false) := by unfold light47; rw [h1]; rfl
    have H1 := hide CL
    clear CL h1
    go_enter Tryz.func4, Tryz.ntmps4
    go_wp2_with (first | (go_at_call 13; refine (H1.out _).mono ?_; rintro e w' ⟨rfl, hg⟩; (first | obtain ⟨x, rfl⟩ := Grows.later2 hg | obtain ⟨x, rfl⟩ := Grows.later hg); clear hg))
    go_ret
    exact ⟨ret_bool HW.out.symm, GG⟩
  | true =>
    rw [h1] at CL
    have HW : Hid (light47 N n m = (decide (N ≤ 12 ∨ 4096 < N) && decide (n ≤ 60) && decide (m ≤ 20 ∨ (1000 < m ∧ m < 1100)))) := by unfold light47; rw [h1]; rfl
    have H1 := hide CL
    clear CL h1
    go_enter Tryz.func4, Tryz.ntmps4
    go_wp2_with (first | (go_at_call 13; refine (H1.out _).mono ?_; rintro e w' ⟨rfl, hg⟩; (first | obtain ⟨x, rfl⟩ := Grows.later2 hg | obtain ⟨x, rfl⟩ := Grows.later hg); clear hg))
    all_goals go_ret
    all_goals exact ⟨ret_bool (by rw [HW.out]; apply bool_ext; simp; try omega), GG⟩
set_option maxRecDepth 20000 in
set_option maxHeartbeats 4000000 in
theorem law47same (A : Option Addr) (c : Nat) (L : List Nat) (lost : Int) (A2 : Option Addr) (c2 : Nat) (w : World) (h : Rd w A 1 L.length (wv L)) (h2 : Rd w A2 1 L.length (wv L)) (hl : L.length ≤ 1000000) :
    Calls Tryz.prog 11 #[.agg #[.slice A L.length c, .int .u64 lost], .agg #[.slice A2 L.length c2, .int .u64 lost]] w fun e w' => e = .returned (.bool true) ∧ Grows w w' := by
  have C := hide (fun (W : World) (g : Grows w W) => show Calls Tryz.prog 12 #[.slice A L.length c, .slice A2 L.length c2] W fun e w' => e = .returned (.bool true) ∧ Grows W w' from by
    have := r1Wide A L.length c L A2 L.length c2 L W (h.grows g) (h2.grows g) hl hl
    rw [decide_eq_true rfl] at this
    exact this)
  clear h h2
  go_enter Tryz.func11, Tryz.ntmps11
  go_wp2_with (first | (go_at_call 12; refine (C.out _ GG).mono ?_; rintro e w' ⟨rfl, hg⟩; (first | obtain ⟨x, rfl⟩ := Grows.later2 hg | obtain ⟨x, rfl⟩ := Grows.later hg); clear hg))
  go_ret
  exact ⟨rfl, GG⟩
end Go.Proofs.YtkfobolbilhjbaaGreat

namespace Go.Proofs.YtkfobolbilhjbaaGreat
open Go Go.RowKit
def faE : List Edg := [⟨0, 1, 3⟩]
def faD : List Edg := [⟨0, 1, 5⟩]
def faO : DOpt := ⟨false, [], [], [], 0⟩
def faDist (v : Nat) : Nat := if v = 0 then 3 else 0
theorem faIs : IsPath faE faO 2 0 1 [0] 3 0 := by
  have hw : wtF ((2 : Nat) : Int) faE faO.W = [3] := by decide +kernel
  obtain ⟨xs, hx⟩ := path_walk (NN := 2) (sN := 0) (tN := 1) (E := faE) (o := faO) (by decide +kernel) (by omega) (by show 0 ≤ _; omega) (by show 0 ≤ _; omega)
  have hnn : ((1 : Nat) : Int) ∉ faO.nn := by simp [faO]
  have hf := hx.far hnn
  have hnear := hx.near hnn
  have hww : ∀ j, gn (srchOf 2 faE (backO faO)).W j = gn [3] j := fun j => by show gn (wtF ((2 : Nat) : Int) faE faO.W) j = _; rw [hw]
  have w1 : Way (srchOf 2 faE (backO faO)) 1 0 3 := by
    have := Way.step (x := srchOf 2 faE (backO faO)) (s := 1) (f := 0) (i := 0) (by exact Way.here) (by decide) (by decide)
    rw [hww] at this
    exact this
  have ge : ∀ {v f}, Way (srchOf 2 faE (backO faO)) 1 v f → faDist v ≤ f := fun {v f} h => Way.ge (x := srchOf 2 faE (backO faO)) faDist rfl (fun i hi => by
    have hi : i < 1 := hi
    rw [hww]
    match i, hi with
    | 0, _ => decide) h
  have d0 : gn (outL 2 xs) 0 = 3 := hf.is (v := 0) rfl (by show 0 < 2; omega) w1 (fun g hg => ge hg)
  have hz : gn (outL 2 xs) 1 = 0 := hnear.zero
  have hfol : Fol (srchOf 2 faE (backO faO)) (outL 2 xs) 1 0 [0] := by
    refine Fol.step (i := 0) (by omega) (by decide) (by decide) ?_ (fun j hj => by omega) ?_
    · have e1 : tN (srchOf 2 faE (backO faO)).E 0 = 1 := by decide
      unfold nearB
      rw [e1, hz, d0, hww]
      decide
    · exact Fol.here
  have := IsPath.way (E := faE) (o := faO) 2 0 1 xs [0] rfl rfl rfl hx (by rw [d0]; decide) hnear hfol
  rw [d0] at this
  exact this
def faP : Ways := fun _ => ([0], 3, 0)
theorem faWays : WaysOf faE faO 2 faD faP := fun k hk => by
  have : k = 0 := by have h : k < 1 := hk; omega
  subst this
  exact faIs
theorem faR : asgR 2 faE faD faO faP = ([5], 0, 0) := by decide +kernel
set_option maxRecDepth 20000 in
set_option maxHeartbeats 4000000 in
theorem alive47 (w : World) : Calls Tryz.prog 5 #[] w fun e w' => e = .returned (.bool true) ∧ Grows w w' := by
  have C := hide (fun (W : World) (A B : Option Addr) (h : Rd W A 3 1 (esCells faE)) (hD : Rd W B 3 1 (esCells faD)) => show Calls Tryz.prog 14 #[.agg #[.int .i64 2, .slice A 1 1], .slice B 1 1, .agg #[.bool false, .slice none 0 0, .slice none 0 0, .slice none 0 0, .int .u64 0]] W fun e w' =>
      ∃ A' c', e = .returned (.tuple #[.agg #[.slice A' 1 c', .int .u64 0], .int .i64 0]) ∧ Rd w' A' 1 1 (wv [5]) ∧ Grows W w' from by
    have := fAssign 2 A 1 faE B 1 faD faO none none none 0 0 0 faP W h hD ⟨rfl, fun h => absurd h (by simp [faO])⟩ ⟨rfl, fun h => absurd h (by simp [faO])⟩ ⟨rfl, fun h => absurd h (by simp [faO])⟩ (by show 1 ≤ _; omega) (by show 0 ≤ _; omega) (by show 1 ≤ _; omega) faWays
    rw [faR] at this
    refine this.mono ?_
    rintro e w' ⟨A', c', h1, h2, _, h3⟩
    exact ⟨A', c', h1, h2, h3⟩)
  go_enter Tryz.func5, Tryz.ntmps5
  go_wp2_with fail
  have h1 : Rd ((w.alloc (.cells #[.int .i64 0, .int .i64 1, .int .u64 3] 53)).alloc (.cells #[.int .i64 0, .int .i64 1, .int .u64 5] 55)) (some ⟨w.heap.size, 0, none⟩) 3 1 (esCells faE) := (Rd.made (w := w) (t := 53) (size := 3) (n := 1) (esCells faE) rfl).new _
  have h2 : Rd ((w.alloc (.cells #[.int .i64 0, .int .i64 1, .int .u64 3] 53)).alloc (.cells #[.int .i64 0, .int .i64 1, .int .u64 5] 55)) (some ⟨w.heap.size + 1, 0, none⟩) 3 1 (esCells faD) := by
    have := Rd.made (w := w.alloc (.cells #[.int .i64 0, .int .i64 1, .int .u64 3] 53)) (t := 55) (size := 3) (n := 1) (esCells faD) rfl
    rw [show (w.alloc (.cells #[.int .i64 0, .int .i64 1, .int .u64 3] 53)).heap.size = w.heap.size + 1 by simp] at this
    exact this
  refine (C.out _ _ _ h1 h2).mono ?_
  rintro e w1 ⟨A', c', rfl, ho, hg⟩
  obtain ⟨x, hx⟩ : ∃ x : Later w, w1 = x.now := ((((Grows.refl w).new _).new _).trans hg).later
  subst hx
  have HR := hide (fun (W : World) (hg : Grows x.now W) (A : Option Addr) (h : Rd W A 1 1 (wv [5])) => show Calls Tryz.prog 12 #[.slice A' 1 c', .slice A 1 1] W fun e w' => e = .returned (.bool true) ∧ Grows W w' from by
    have := r1Wide A' 1 c' [5] A 1 1 [5] W (ho.grows hg) h (by omega) (by omega)
    rw [decide_eq_true rfl] at this
    exact this)
  clear hg ho h1 h2 C
  go_wp2_with fail
  have hR : Rd ((x.now.alloc (.cells #[.slice A' 1 c', .int .u64 0] 33)).alloc (.cells #[.int .u64 5] 26)) (some ⟨x.now.heap.size + 1, 0, none⟩) 1 1 (wv [5]) := by
    have := Rd.made (w := x.now.alloc (.cells #[.slice A' 1 c', .int .u64 0] 33)) (t := 26) (size := 1) (n := 1) [.int .u64 5] rfl
    rw [show (x.now.alloc (.cells #[.slice A' 1 c', .int .u64 0] 33)).heap.size = x.now.heap.size + 1 by simp] at this
    exact this
  refine (HR.out _ GG _ hR).mono ?_
  rintro e w2 ⟨rfl, hg⟩
  have a1 : Arr w2 x.now.heap.size 33 [.slice A' 1 c', .int .u64 0] := ((Arr.make x.now [.slice A' 1 c', .int .u64 0] 33).grow ((Grows.refl _).new (.cells #[.int .u64 5] 26))).grow hg
  obtain ⟨y, rfl⟩ := Grows.later2 ((((Grows.refl x.now).new _).new _).trans hg)
  clear hg
  go_wp2_with fail
  go_ret
  exact ⟨rfl, GG⟩
end Go.Proofs.YtkfobolbilhjbaaGreat

