/- Contract: the answer's shortest way between two nodes. -/
import Derived.Test.YtkfobolbilhjbaaGreatQFlowRounds05
import Derived.Test.YtkfobolbilhjbaaGreatQFlowRounds14
namespace Go.Proofs.YtkfobolbilhjbaaGreat
open Go Go.RowKit
attribute [local go_sem] Oper.semAt_some
set_option maxHeartbeats 2000000 in
theorem r15Plain (back : Bool) (A1 : Option Addr) (n1 c1 : Nat) (A2 : Option Addr) (n2 c2 : Nat) (Aw : Option Addr) (nw cw most : Nat) (w : World) : Calls Tryz.prog 54 #[oVal back (.slice A1 n1 c1) (.slice A2 n2 c2) Aw nw cw most] w fun e w' => e = .returned (oVal false (.slice A1 n1 c1) (.slice A2 n2 c2) Aw nw cw 0) ∧ Grows w w' := by
  unfold oVal
  go_enter Tryz.func54, Tryz.ntmps54
  go_wp2
  refine bodyPost_ret (v := .agg #[.bool false, .slice A1 n1 c1, .slice A2 n2 c2, .slice Aw nw cw, .int .u64 0]) (by simp (maxDischargeDepth := 6) [results, Tryz.results54, go_sem, *]) rfl ?_
  exact ⟨rfl, GG⟩
theorem Arr.apd {w w' : World} {B n c g : Nat} {A : Option Addr} {xs cs : List Value} {e t : TypeId} (h : Arr w g t cs) (ho : Own w B e 1 A n c xs) (hg : w.grownBy w' (Value.slice A n c).ownBlock) (hte : t ≠ e) : Arr w' g t cs :=
  h.touch (S := fun k => (Value.slice A n c).ownBlock = some k) ((Touch.refl _ w).grown hg (fun k hk => .inl hk)) (fun e2 => by
    cases A with
    | none => simp [Value.ownBlock] at e2
    | some p =>
      simp [Value.ownBlock] at e2
      have h1 := (ho.ty p rfl).2
      rw [e2] at h1
      exact hte (h.ty.one h1))
def R15St (W1 : World) (b14 lo f : Nat) (A : Option Addr) (c : Nat) (pre : List Nat) (wr : World) : Prop :=
  ∃ y : Later W1, wr = y.now ∧ Arr y.now b14 69 [.slice A pre.length c, .int .u64 (f : Int)] ∧ Own y.now lo 3 1 A pre.length c (nv pre)
set_option maxRecDepth 40000 in
set_option maxHeartbeats 16000000 in
theorem r15Path (N s t : Int) (A : Option Addr) (c : Nat) (E : List Edg) (o : DOpt) (An Ae Aw : Option Addr) (cn ce cw : Nat) (l : List Nat) (f : Nat) (r : Int) (w : World) (h : Rd w A 3 E.length (esCells E)) (h2 : Rd w An 1 o.nn.length (o.nn.map (.int .i64))) (h3 : Rd w Ae 1 o.ne.length (o.ne.map (.int .i64))) (h4 : Rd w Aw 1 o.W.length (wv o.W))
    (hn : E.length ≤ 1000000) (hn3 : o.W.length ≤ 1000000) (hp : IsPath E o N s t l f r) :
    Calls Tryz.prog 35 #[.agg #[.int .i64 N, .slice A E.length c], .int .i64 s, .int .i64 t, oVal o.back (.slice An o.nn.length cn) (.slice Ae o.ne.length ce) Aw o.W.length cw o.most] w fun e w' =>
      ∃ A' c', e = .returned (.tuple #[.agg #[.slice A' l.length c', .int .u64 (f : Int)], .int .i64 r]) ∧ Own w' w.heap.size 3 1 A' l.length c' (nv l) ∧ Grows w w' := by
  have C1 := hide (fun (W : World) => show Calls Tryz.prog 54 #[.agg #[.bool o.back, .slice An o.nn.length cn, .slice Ae o.ne.length ce, .slice Aw o.W.length cw, .int .u64 (o.most : Int)]] W fun e w' => e = .returned (.agg #[.bool false, .slice An o.nn.length cn, .slice Ae o.ne.length ce, .slice Aw o.W.length cw, .int .u64 0]) ∧ Grows W w' from r15Plain o.back An o.nn.length cn Ae o.ne.length ce Aw o.W.length cw o.most W)
  have C2 := hide (fun (W : World) (g : Grows w W) => show Calls Tryz.prog 34 #[.agg #[.int .i64 N, .slice A E.length c], .int .i64 s, .agg #[.bool false, .slice An o.nn.length cn, .slice Ae o.ne.length ce, .slice Aw o.W.length cw, .int .u64 0]] W fun e w' => e = .returned (.int .i64 (dcF N s E o.W)) ∧ Grows W w' from r14Check N s A E.length c E false (.slice An o.nn.length cn) (.slice Ae o.ne.length ce) Aw o.W.length cw 0 o.W W (h.grows g) (h4.grows g) hn hn3)
  unfold oVal
  generalize o.most = mo at *
  generalize o.back = back at *
  cases hp with
  | bad hd =>
    have hr2 : (dcF N s E o.W == 0) = false := beq_eq_false_iff_ne.2 hd
    clear h h2 h3 h4 hd
    generalize dcF N s E o.W = r at *
    go_enter Tryz.func35, Tryz.ntmps35
    go_wp2_with fail
    refine (C1.out _).mono ?_; rintro e W0 ⟨rfl, hg⟩
    have a4 : Arr W0 w.heap.size 24 [.int .i64 (N), .slice A E.length c] := Arr.grow ⟨by simp [heap_push, Array.getElem_push, Array.getElem?_push, eq_add2]⟩ hg
    have a7 : Arr W0 (w.heap.size + 1) 61 [.bool back, .slice An o.nn.length cn, .slice Ae o.ne.length ce, .slice Aw o.W.length cw, .int .u64 (mo : Int)] := Arr.grow ⟨by simp [heap_push, Array.getElem_push]⟩ hg
    have a8 : Arr W0 (w.heap.size + 1 + 1) 69 [.slice none 0 0, .int .u64 0] := Arr.grow ⟨by simp [heap_push, Array.getElem_push]⟩ hg
    have hgw : Grows w W0 := Grows.trans (by exact GG) hg
    obtain ⟨b4, e4⟩ : ∃ b, w.heap.size = b := ⟨_, rfl⟩
    have hb : w.heap.size ≤ b4 := by omega
    rw [e4] at a4 a7 a8 ⊢
    clear e4 hg C1
    have hb2 : b4 < b4 + 1 ∧ b4 + 1 < b4 + 1 + 1 := by omega
    generalize b4 + 1 + 1 = b8 at *
    generalize b4 + 1 = b7 at *
    obtain ⟨y, rfl⟩ := hgw.later
    clear hgw
    go_wp2_with fail
    have g5 : Grows w (cells5 y.now b7 (.bool false) (.slice An o.nn.length cn) (.slice Ae o.ne.length ce) (.slice Aw o.W.length cw) (.int .u64 0)) := Grows.set5 y.grows (by omega)
    refine (C2.out _ g5).mono ?_; rintro e W0 ⟨rfl, hg⟩
    replace g5 := g5.trans hg
    have c4 := (a4.other5 (b := b7) (by omega)).grow hg
    have c7 := (a7.set5).grow hg
    have c8 := (a8.other5 (b := b7) (by omega)).grow hg
    clear a4 a7 a8 hg
    obtain ⟨y1, rfl⟩ := g5.later
    clear g5
    go_wp2_with fail
    refine bodyPost_ret (v := .tuple #[.agg #[.slice none 0 0, .int .u64 0], .int .i64 (r)]) (by simp (maxDischargeDepth := 6) [results, Tryz.results35, go_sem, *]) rfl ?_
    exact ⟨none, 0, rfl, Own.nil _ _ _ _, GG⟩
  | noNode hd ht =>
    rw [hd] at C2
    clear h h2 h3 h4 hd
    by_cases ht0 : t < 0
    · have hb0 : decide (t < 0) = true := decide_eq_true ht0
      clear ht ht0
      go_enter Tryz.func35, Tryz.ntmps35
      go_wp2_with fail
      refine (C1.out _).mono ?_; rintro e W0 ⟨rfl, hg⟩
      have a4 : Arr W0 w.heap.size 24 [.int .i64 (N), .slice A E.length c] := Arr.grow ⟨by simp [heap_push, Array.getElem_push, Array.getElem?_push, eq_add2]⟩ hg
      have a7 : Arr W0 (w.heap.size + 1) 61 [.bool back, .slice An o.nn.length cn, .slice Ae o.ne.length ce, .slice Aw o.W.length cw, .int .u64 (mo : Int)] := Arr.grow ⟨by simp [heap_push, Array.getElem_push]⟩ hg
      have a8 : Arr W0 (w.heap.size + 1 + 1) 69 [.slice none 0 0, .int .u64 0] := Arr.grow ⟨by simp [heap_push, Array.getElem_push]⟩ hg
      have hgw : Grows w W0 := Grows.trans (by exact GG) hg
      obtain ⟨b4, e4⟩ : ∃ b, w.heap.size = b := ⟨_, rfl⟩
      have hb : w.heap.size ≤ b4 := by omega
      rw [e4] at a4 a7 a8 ⊢
      clear e4 hg C1
      have hb2 : b4 < b4 + 1 ∧ b4 + 1 < b4 + 1 + 1 := by omega
      generalize b4 + 1 + 1 = b8 at *
      generalize b4 + 1 = b7 at *
      obtain ⟨y, rfl⟩ := hgw.later
      clear hgw
      go_wp2_with fail
      have g5 : Grows w (cells5 y.now b7 (.bool false) (.slice An o.nn.length cn) (.slice Ae o.ne.length ce) (.slice Aw o.W.length cw) (.int .u64 0)) := Grows.set5 y.grows (by omega)
      refine (C2.out _ g5).mono ?_; rintro e W0 ⟨rfl, hg⟩
      replace g5 := g5.trans hg
      have c4 := (a4.other5 (b := b7) (by omega)).grow hg
      have c7 := (a7.set5).grow hg
      have c8 := (a8.other5 (b := b7) (by omega)).grow hg
      clear a4 a7 a8 hg
      obtain ⟨y1, rfl⟩ := g5.later
      clear g5
      go_wp2_with fail
      refine bodyPost_ret (v := .tuple #[.agg #[.slice none 0 0, .int .u64 0], .int .i64 (7)]) (by simp (maxDischargeDepth := 6) [results, Tryz.results35, go_sem, *]) rfl ?_
      exact ⟨none, 0, rfl, Own.nil _ _ _ _, GG⟩
    · have hb0 : decide (t < 0) = false := decide_eq_false ht0
      have hb1 : decide (N ≤ t) = true := decide_eq_true (by omega)
      clear ht ht0
      go_enter Tryz.func35, Tryz.ntmps35
      go_wp2_with fail
      refine (C1.out _).mono ?_; rintro e W0 ⟨rfl, hg⟩
      have a4 : Arr W0 w.heap.size 24 [.int .i64 (N), .slice A E.length c] := Arr.grow ⟨by simp [heap_push, Array.getElem_push, Array.getElem?_push, eq_add2]⟩ hg
      have a7 : Arr W0 (w.heap.size + 1) 61 [.bool back, .slice An o.nn.length cn, .slice Ae o.ne.length ce, .slice Aw o.W.length cw, .int .u64 (mo : Int)] := Arr.grow ⟨by simp [heap_push, Array.getElem_push]⟩ hg
      have a8 : Arr W0 (w.heap.size + 1 + 1) 69 [.slice none 0 0, .int .u64 0] := Arr.grow ⟨by simp [heap_push, Array.getElem_push]⟩ hg
      have hgw : Grows w W0 := Grows.trans (by exact GG) hg
      obtain ⟨b4, e4⟩ : ∃ b, w.heap.size = b := ⟨_, rfl⟩
      have hb : w.heap.size ≤ b4 := by omega
      rw [e4] at a4 a7 a8 ⊢
      clear e4 hg C1
      have hb2 : b4 < b4 + 1 ∧ b4 + 1 < b4 + 1 + 1 := by omega
      generalize b4 + 1 + 1 = b8 at *
      generalize b4 + 1 = b7 at *
      obtain ⟨y, rfl⟩ := hgw.later
      clear hgw
      go_wp2_with fail
      have g5 : Grows w (cells5 y.now b7 (.bool false) (.slice An o.nn.length cn) (.slice Ae o.ne.length ce) (.slice Aw o.W.length cw) (.int .u64 0)) := Grows.set5 y.grows (by omega)
      refine (C2.out _ g5).mono ?_; rintro e W0 ⟨rfl, hg⟩
      replace g5 := g5.trans hg
      have c4 := (a4.other5 (b := b7) (by omega)).grow hg
      have c7 := (a7.set5).grow hg
      have c8 := (a8.other5 (b := b7) (by omega)).grow hg
      clear a4 a7 a8 hg
      obtain ⟨y1, rfl⟩ := g5.later
      clear g5
      go_wp2_with fail
      refine bodyPost_ret (v := .tuple #[.agg #[.slice none 0 0, .int .u64 0], .int .i64 (7)]) (by simp (maxDischargeDepth := 6) [results, Tryz.results35, go_sem, *]) rfl ?_
      exact ⟨none, 0, rfl, Own.nil _ _ _ _, GG⟩
  | noPath NN sN tN xs hN hs ht hok hf =>
    subst hN hs ht
    have HR := hide (And.intro h (And.intro h2 (And.intro h3 h4)))
    have HOK := hide hok
    rw [hok.dcs] at C2
    have hb0 : decide ((tN : Int) < 0) = false := decide_eq_false (by omega)
    have hb1 : tN < NN := hok.ok.node
    have hsN := hok.node
    have C4 := hide (fun (W1 : World) (g : Grows w W1) => show Calls Tryz.prog 55 #[.agg #[.int .i64 (NN : Int), .slice A E.length c], .int .i64 (tN : Int), .agg #[.bool true, .slice An o.nn.length cn, .slice Ae o.ne.length ce, .slice Aw o.W.length cw, .int .u64 0]] W1 fun e w' =>
      ∃ go, e = .returned (.slice (some ⟨go, 0, none⟩) NN NN) ∧ Row1 w' go 26 1 NN NN (wv (outL NN xs)) ∧ Grows W1 w' from by
      rw [← hok.ref]
      exact r14All NN tN A c E (backO o) An Ae Aw cn ce cw W1 (h.grows g) (h2.grows g) (h3.grows g) (h4.grows g) hok.ok (fun i hi => (hok.wb i hi).2))
    have HDL := hide (outL_len NN xs)
    clear h h2 h3 h4
    clear hok
    go_enter Tryz.func35, Tryz.ntmps35
    go_wp2_with fail
    refine (C1.out _).mono ?_; rintro e W0 ⟨rfl, hg⟩
    have a4 : Arr W0 w.heap.size 24 [.int .i64 ((NN : Int)), .slice A E.length c] := Arr.grow ⟨by simp [heap_push, Array.getElem_push, Array.getElem?_push, eq_add2]⟩ hg
    have a7 : Arr W0 (w.heap.size + 1) 61 [.bool back, .slice An o.nn.length cn, .slice Ae o.ne.length ce, .slice Aw o.W.length cw, .int .u64 (mo : Int)] := Arr.grow ⟨by simp [heap_push, Array.getElem_push]⟩ hg
    have a8 : Arr W0 (w.heap.size + 1 + 1) 69 [.slice none 0 0, .int .u64 0] := Arr.grow ⟨by simp [heap_push, Array.getElem_push]⟩ hg
    have hgw : Grows w W0 := Grows.trans (by exact GG) hg
    obtain ⟨b4, e4⟩ : ∃ b, w.heap.size = b := ⟨_, rfl⟩
    have hb : w.heap.size ≤ b4 := by omega
    rw [e4] at a4 a7 a8 ⊢
    clear e4 hg C1
    have hb2 : b4 < b4 + 1 ∧ b4 + 1 < b4 + 1 + 1 := by omega
    generalize b4 + 1 + 1 = b8 at *
    generalize b4 + 1 = b7 at *
    obtain ⟨y, rfl⟩ := hgw.later
    clear hgw
    go_wp2_with fail
    have g5 : Grows w (cells5 y.now b7 (.bool false) (.slice An o.nn.length cn) (.slice Ae o.ne.length ce) (.slice Aw o.W.length cw) (.int .u64 0)) := Grows.set5 y.grows (by omega)
    refine (C2.out _ g5).mono ?_; rintro e W0 ⟨rfl, hg⟩
    replace g5 := g5.trans hg
    have c4 := (a4.other5 (b := b7) (by omega)).grow hg
    have c7 := (a7.set5).grow hg
    have c8 := (a8.other5 (b := b7) (by omega)).grow hg
    clear a4 a7 a8 hg
    obtain ⟨y1, rfl⟩ := g5.later
    clear g5
    go_wp2_with fail
    refine (C4.out _ GG).mono ?_; rintro e W0 ⟨gf, rfl, hrow, hg⟩
    replace c4 := (c4.grow ((Grows.refl _).new _)).grow hg
    replace c7 := (c7.grow ((Grows.refl _).new _)).grow hg
    replace c8 := (c8.grow ((Grows.refl _).new _)).grow hg
    have g8 := (y1.grows.new _).trans hg
    clear hg
    obtain ⟨y3, rfl⟩ := g8.later
    clear g8
    have kf : Mine y3.now ⟨gf, sN, none⟩ (.int .u64 4611686018427387904) := by
      have := hrow.mine (j := sN) (wv_at (W := outL NN xs) (by rw [HDL.out]; exact hsN))
      rw [hf] at this
      exact this
    clear hrow
    go_wp2_with fail
    refine bodyPost_ret (v := .tuple #[.agg #[.slice none 0 0, .int .u64 0], .int .i64 (9)]) (by simp (maxDischargeDepth := 6) [results, Tryz.results35, go_sem, *]) rfl ?_
    exact ⟨none, 0, rfl, Own.nil _ _ _ _, GG⟩
  | way NN sN tN xs l hN hs ht hok hf hnear hfol =>
    subst hN hs ht
    have HR := hide (And.intro h (And.intro h2 (And.intro h3 h4)))
    have HOK := hide hok
    rw [hok.dcs] at C2
    have hb0 : decide ((tN : Int) < 0) = false := decide_eq_false (by omega)
    have hb1 : tN < NN := hok.ok.node
    have hsN := hok.node
    have C4 := hide (fun (W1 : World) (g : Grows w W1) => show Calls Tryz.prog 55 #[.agg #[.int .i64 (NN : Int), .slice A E.length c], .int .i64 (tN : Int), .agg #[.bool true, .slice An o.nn.length cn, .slice Ae o.ne.length ce, .slice Aw o.W.length cw, .int .u64 0]] W1 fun e w' =>
      ∃ go, e = .returned (.slice (some ⟨go, 0, none⟩) NN NN) ∧ Row1 w' go 26 1 NN NN (wv (outL NN xs)) ∧ Grows W1 w' from by
      rw [← hok.ref]
      exact r14All NN tN A c E (backO o) An Ae Aw cn ce cw W1 (h.grows g) (h2.grows g) (h3.grows g) (h4.grows g) hok.ok (fun i hi => (hok.wb i hi).2))
    have HDL := hide (outL_len NN xs)
    clear h h2 h3 h4
    have hlN : l.length < NN := hfol.short hnear hok.node
    have hNb : NN ≤ 4096 := hok.bound.2.1
    have hEb : E.length ≤ 16384 := hok.bound.2.2
    have HNEAR := hide hnear
    have HFOL := hide hfol
    have HFAR := hide hf
    have hlt : gn (outL NN xs) sN < 4611686018427387904 := by unfold farV at hf; exact hf
    have hbd : decide ((4611686018427387904 : Int) ≤ (gn (outL NN xs) sN : Int)) = false := decide_eq_false (by omega)
    have HX := hide (show (wtF NN E o.W).length = E.length from hok.ok.wlen)
    have HIN := hide (show InN NN E from hok.ok.srch.ends)
    have C6 := hide (fun (W1 : World) (g1 : Grows w W1) => show Calls Tryz.prog 56 #[.agg #[.int .i64 (NN : Int), .slice A E.length c], .agg #[.bool false, .slice An o.nn.length cn, .slice Ae o.ne.length ce, .slice Aw o.W.length cw, .int .u64 0]] W1 fun e w' => ∃ A9 c9, e = .returned (.slice A9 E.length c9) ∧ Rd w' A9 1 E.length (wv (wtF NN E o.W)) ∧ Grows W1 w' from
      (r14Weights NN A E.length c E false (.slice An o.nn.length cn) (.slice Ae o.ne.length ce) Aw o.W.length cw 0 o.W W1 (HR.out.1.grows g1) (HR.out.2.2.2.grows g1) hn hn3).mono (fun e w' h => by
        obtain ⟨A9, c9, rfl, ho, hg⟩ := h
        have e9 : (wtF NN E o.W).length = E.length := HOK.out.ok.wlen
        have ho := ho.rd
        rw [e9] at ho ⊢
        exact ⟨A9, c9, rfl, ho, hg⟩))
    have CC := hide (fun (W1 : World) (g : Grows w W1) (i : Nat) (hi : i < E.length) => show Calls Tryz.prog 57 #[.agg #[.int .i64 (NN : Int), .slice A E.length c], .int .i64 (i : Int), .agg #[.bool false, .slice An o.nn.length cn, .slice Ae o.ne.length ce, .slice Aw o.W.length cw, .int .u64 0]] W1 fun e w' => e = .returned (.bool (cnt2 (srchOf NN E (backO o)) i)) ∧ Grows W1 w' from
      r14Counts NN A c E ⟨false, o.nn, o.ne, o.W, 0⟩ An Ae Aw cn ce cw i W1 (HR.out.1.grows g) (HR.out.2.1.grows g) (HR.out.2.2.1.grows g) HOK.out.ok.nns HOK.out.ok.nes hn hi (HIN.out.f i hi).2 (HIN.out.t i hi).2)
    have HWB := hide hok.wb
    clear hok hf hnear hfol hlt
    go_enter Tryz.func35, Tryz.ntmps35
    go_wp2_with fail
    refine (C1.out _).mono ?_; rintro e W0 ⟨rfl, hg⟩
    have a4 : Arr W0 w.heap.size 24 [.int .i64 ((NN : Int)), .slice A E.length c] := Arr.grow ⟨by simp [heap_push, Array.getElem_push, Array.getElem?_push, eq_add2]⟩ hg
    have a7 : Arr W0 (w.heap.size + 1) 61 [.bool back, .slice An o.nn.length cn, .slice Ae o.ne.length ce, .slice Aw o.W.length cw, .int .u64 (mo : Int)] := Arr.grow ⟨by simp [heap_push, Array.getElem_push]⟩ hg
    have a8 : Arr W0 (w.heap.size + 1 + 1) 69 [.slice none 0 0, .int .u64 0] := Arr.grow ⟨by simp [heap_push, Array.getElem_push]⟩ hg
    have hgw : Grows w W0 := Grows.trans (by exact GG) hg
    obtain ⟨b4, e4⟩ : ∃ b, w.heap.size = b := ⟨_, rfl⟩
    have hb : w.heap.size ≤ b4 := by omega
    rw [e4] at a4 a7 a8 ⊢
    clear e4 hg C1
    have hb2 : b4 < b4 + 1 ∧ b4 + 1 < b4 + 1 + 1 := by omega
    generalize b4 + 1 + 1 = b8 at *
    generalize b4 + 1 = b7 at *
    obtain ⟨y, rfl⟩ := hgw.later
    clear hgw
    go_wp2_with fail
    have g5 : Grows w (cells5 y.now b7 (.bool false) (.slice An o.nn.length cn) (.slice Ae o.ne.length ce) (.slice Aw o.W.length cw) (.int .u64 0)) := Grows.set5 y.grows (by omega)
    refine (C2.out _ g5).mono ?_; rintro e W0 ⟨rfl, hg⟩
    replace g5 := g5.trans hg
    have c4 := (a4.other5 (b := b7) (by omega)).grow hg
    have c7 := (a7.set5).grow hg
    have c8 := (a8.other5 (b := b7) (by omega)).grow hg
    clear a4 a7 a8 hg
    obtain ⟨y1, rfl⟩ := g5.later
    clear g5
    go_wp2_with fail
    refine (C4.out _ GG).mono ?_; rintro e W0 ⟨gf, rfl, hrow, hg⟩
    replace c4 := (c4.grow ((Grows.refl _).new _)).grow hg
    replace c7 := (c7.grow ((Grows.refl _).new _)).grow hg
    replace c8 := (c8.grow ((Grows.refl _).new _)).grow hg
    have g8 := (y1.grows.new _).trans hg
    clear hg
    obtain ⟨y3, rfl⟩ := g8.later
    clear g8
    have kf : Mine y3.now ⟨gf, sN, none⟩ (.int .u64 (gn (outL NN xs) sN : Int)) := hrow.mine (j := sN) (wv_at (W := outL NN xs) (by rw [HDL.out]; exact hsN))
    have HROW := hide hrow
    clear hrow
    go_wp2_with fail
    refine (C6.out _ GG).mono ?_; rintro e W1 ⟨A9, c9, rfl, hx, hg⟩
    have HX9 := hide hx
    have HROW := hide (HROW.out.grow hg)
    replace c4 := c4.grow hg
    replace c7 := c7.grow hg
    replace c8 := c8.grow hg
    replace kf : Mine W1 ⟨gf, sN, none⟩ (.int .u64 (gn (outL NN xs) sN : Int)) := HROW.out.mine (j := sN) (wv_at (W := outL NN xs) (by rw [HDL.out]; exact hsN))
    have g9 := y3.grows.trans hg
    clear hg hx
    have hb8 := c8.ty.lt
    have hW1 := g9.size
    have KV := hide (fun (v : Nat) (hv : v < NN) => show Mine W1 ⟨gf, v, none⟩ (.int .u64 (gn (outL NN xs) v : Int)) from HROW.out.mine (j := v) (wv_at (W := outL NN xs) (by rw [HDL.out]; exact hv)))
    go_wp2_with fail
    have r0 : R15St W1 W1.heap.size W1.heap.size (gn (outL NN xs) sN) none 0 [] (W1.alloc (.cells #[.slice none 0 0, .int .u64 (gn (outL NN xs) sN : Int)] 69)) := ⟨⟨_, (Grows.refl _).new _⟩, rfl, Arr.make _ _ _, Own.nil _ _ _ _⟩
    obtain ⟨b14, e14⟩ : ∃ b, W1.heap.size = b := ⟨_, rfl⟩
    have hl14 : W1.heap.size ≤ b14 := by omega
    have r0 : R15St W1 b14 W1.heap.size (gn (outL NN xs) sN) none 0 [] (W1.alloc (.cells #[.slice none 0 0, .int .u64 (gn (outL NN xs) sN : Int)] 69)) := by rw [← e14]; exact r0
    rw [e14]
    clear e14
    go_loopw [15, 16] (fun vv nk wr => ∃ (v : Nat) (pre rest : List Nat) (A8 : Option Addr) (k8 : Nat), pre ++ rest = l ∧ (v < NN ∧ gn (outL NN xs) v < farV) ∧ Fol (srchOf NN E (backO o)) (outL NN xs) tN v rest ∧ vv = .int .i64 (v : Int) ∧ nk = .int .i64 (pre.length : Int) ∧ R15St W1 b14 W1.heap.size (gn (outL NN xs) sN) A8 k8 pre wr) (fun _ nk _ => NN + 1 - (Go.RowKit.intOf nk).toNat)
    case atStart => exact ⟨sN, [], l, none, 0, rfl, ⟨hsN, HFAR.out⟩, HFOL.out, rfl, by go_num, r0⟩
    case round =>
      obtain ⟨v, pre, rest, A8, k8, hpl, ⟨hv, hvfar⟩, hfol, rfl, rfl, ⟨y, rfl, a14, ho⟩⟩ := hrel
      have hpre : pre.length < NN := by
        have := congrArg List.length hpl
        simp at this
        omega
      have hle : pre.length ≤ NN := by omega
      have HVF := hide hvfar
      have HO := hide ho
      have HPL := hide hpl
      have HF := hide hfol
      clear ho hpl hfol r0 hvfar
      by_cases hvt : v = tN
      · subst hvt
        have er := HF.out.end_
        subst er
        have HPL := hide (show pre = l by have := HPL.out; simpa using this)
        have hyz := y.size
        have hbw : w.heap.size ≤ b8 := by omega
        have ho2 := (HO.out.low (q := ⟨b8, 0, none⟩) (by show b8 < _; omega) (.slice A8 pre.length k8)).low (q := ⟨b8, 1, none⟩) (by show b8 < _; omega) (.int .u64 (gn (outL NN xs) sN : Int))
        have HO2 := hide (ho2.base hW1)
        have hwy : Grows w y.now := g9.trans y.grows
        have g10 : Grows w ((y.now.setCell ⟨b8, 0, none⟩ (.slice A8 pre.length k8)).setCell ⟨b8, 1, none⟩ (.int .u64 (gn (outL NN xs) sN : Int))) := (hwy.set (p := ⟨b8, 0, none⟩) hbw _).set (p := ⟨b8, 1, none⟩) hbw _
        clear ho2 HO hwy
        go_wp2_with fail
        refine bodyPost_ret (v := .tuple #[.agg #[.slice A8 pre.length k8, .int .u64 (gn (outL NN xs) sN : Int)], .int .i64 0]) (by simp (maxDischargeDepth := 6) [results, Tryz.results35, go_sem, *]) rfl ?_
        refine ⟨A8, k8, by rw [HPL.out], ?_, g10⟩
        rw [← HPL.out]
        exact HO2.out
      · obtain ⟨i0, rest2, hre, hi0, hfi0, hnb0, hlt0, hfol2⟩ := HF.out.next hvt
        have hbv : ((v : Int) != (tN : Int)) = true := by simpa using (by omega : ¬ (v : Int) = (tN : Int))
        have HRE := hide hre
        have HN0 := hide (And.intro hnb0 (And.intro hlt0 (And.intro hfol2 hfi0)))
        have hi0 : i0 < E.length := hi0
        clear hvt hre hnb0 hlt0 hfol2
        have hleb : decide (pre.length ≤ NN) = true := decide_eq_true hle
        clear hle
        go_wp2_with fail
        go_loopw [15, 17] (fun vv jk wr => ∃ j : Nat, j ≤ i0 ∧ vv = .int .i64 (v : Int) ∧ jk = .int .i64 (j : Int) ∧ R15St W1 b14 W1.heap.size (gn (outL NN xs) sN) A8 k8 pre wr) (fun _ jk _ => i0 + 1 - (Go.RowKit.intOf jk).toNat)
        case atStart => exact ⟨0, Nat.zero_le _, rfl, by go_num, y, rfl, a14, HO.out⟩
        case round =>
          obtain ⟨j, hj, rfl, rfl, ⟨y2, rfl, a14, ho2⟩⟩ := hrel
          have HO2 := hide ho2
          have hjE : j < E.length := by omega
          have hto := (HIN.out.t j hjE)
          have hfr := (HIN.out.f j hjE)
          obtain ⟨bx, offx, rfl, hcx⟩ := HX9.out.at_ (by omega)
          have kx : Holds W1 ⟨bx, offx + j, none⟩ (.int .u64 (gn (wtF NN E o.W) j : Int)) := ⟨hcx _ _ (wv_at (by rw [HX.out]; exact hjE))⟩
          have kt := KV.out (Go.Proofs.YtkfobolbilhjbaaGreat.tN E j) hto.1
          have kv := KV.out v hv
          obtain ⟨b9, off9, rfl, hc9⟩ := HR.out.1.edgesH (by omega)
          obtain ⟨z1', z2', z3'⟩ := hc9 j hjE
          have z1 : Holds W1 _ _ := ⟨g9.keeps z1'.cell⟩
          have z2 : Holds W1 _ _ := ⟨g9.keeps z2'.cell⟩
          have z3 : Holds W1 _ _ := ⟨g9.keeps z3'.cell⟩
          have CCJ := hide (fun (W : World) (g : Grows w W) => CC.out W g j hjE)
          rw [hfr.2] at z1
          rw [hto.2] at z2
          clear hcx hc9 z1' z2' z3' ho2 hto hfr
          have hwb2 := (HWB.out j hjE).2
          obtain ⟨du, hdu⟩ : ∃ z, gn (outL NN xs) (Go.Proofs.YtkfobolbilhjbaaGreat.tN E j) = z := ⟨_, rfl⟩
          obtain ⟨dv, hdv⟩ : ∃ z, gn (outL NN xs) v = z := ⟨_, rfl⟩
          obtain ⟨xw, hxw⟩ : ∃ z, gn (wtF NN E o.W) j = z := ⟨_, rfl⟩
          rw [hdu] at kt
          rw [hdv] at kv
          rw [hxw] at kx hwb2
          have HDU := hide hdu
          have HDV := hide hdv
          have HXW := hide hxw
          clear hdu hdv hxw
          by_cases hfv : Go.Proofs.YtkfobolbilhjbaaGreat.fN E j = v
          · have hbf : ((Go.Proofs.YtkfobolbilhjbaaGreat.fN E j : Int) == (v : Int)) = true := by rw [hfv]; simp
            have hsame : (cnt2 (srchOf NN E (backO o)) j && decide (gn (outL NN xs) (Go.Proofs.YtkfobolbilhjbaaGreat.tN E j) < farV) && decide (gn (wtF NN E o.W) j + gn (outL NN xs) (Go.Proofs.YtkfobolbilhjbaaGreat.tN E j) = gn (outL NN xs) v)) = nearB (srchOf NN E (backO o)) (outL NN xs) v j := HNEAR.out.same (i := j) hjE hfv HVF.out
            rw [HDU.out, HDV.out, HXW.out] at hsame
            by_cases hji : j = i0
            · have hnb : nearB (srchOf NN E (backO o)) (outL NN xs) v j = true := by rw [hji]; exact HN0.out.1
              rw [hnb] at hsame
              simp only [Bool.and_eq_true, decide_eq_true_eq] at hsame
              obtain ⟨⟨hc, hlt⟩, heq⟩ := hsame
              rw [hc] at CCJ
              have htf := (nearB_yes hnb).1
              have HTF := hide (show gn (outL NN xs) (Go.Proofs.YtkfobolbilhjbaaGreat.tN E j) < farV from htf)
              have htn : Go.Proofs.YtkfobolbilhjbaaGreat.tN E j < NN := (HIN.out.t j hjE).1
              unfold farV at hlt
              have hb1 : decide ((du : Int) < 4611686018427387904) = true := decide_eq_true (by omega)
              have hb2 : ((xw : Int) + (du : Int) == (dv : Int)) = true := by simpa using (by omega : (xw : Int) + (du : Int) = (dv : Int))
              have HJI := hide hji
              have HFV := hide hfv
              clear hc heq hnb htf hji hfv
              go_upto_region 22 with fail
              ((first | refine wp_region_gen (by kernel_rfl) (by kernel_rfl) ?_); (repeat' ((first | refine gLex_val0 rfl (by kernel_rfl) (fun K hK => ?_) | refine gLex_undef rfl rfl rfl (by kernel_rfl) (fun K hK => ?_) | (refine gLex_ask rfl rfl rfl ?_; first | (apply gAsk_yes; kernel_rfl; intro K hK) | ((first | apply gAsk_no1 | apply gAsk_no2); kernel_rfl; intro K hK) | (apply gAsk_part; kernel_rfl; all_goals (intro h K hK; (try simp only [Bool.not_true] at h); (try simp only [Bool.not_false] at h); (try simp only [decide_eq_true_eq] at h); (try simp only [decide_eq_false_iff_not] at h); try (exfalso; first | contradiction | omega))))) <;> (go_simp; (try (simp only [↓IntWalk.iteOmega]; try go_simp)); (try simp (disch := omega) only [IntWalk.i64_in]); (try simp (disch := omega) only [IntWalk.u64_in]); first | (refine hK _ ?_; clear hK K) | (apply Exists.intro; refine ⟨fun x => ?_, hK _ ?_⟩; (first | (go_at_call 57; exact CCJ.out _ GG)); clear hK K)))); all_goals ((apply gLex_end); intro y7))
              have ao := HO2.out.grows (show Grows y2.now y7.now from GG)
              have q14 := a14.grow (show Grows y2.now y7.now from GG)
              have HAO := hide ao
              have qe : Arr y7.now y2.now.heap.size 53 [.int .i64 (Go.Proofs.YtkfobolbilhjbaaGreat.fN E j : Int), .int .i64 (Go.Proofs.YtkfobolbilhjbaaGreat.tN E j : Int), .int .u64 (ge E j).w] := (Arr.make y2.now _ _).grow y7.grows
              clear ao hb1 hb2 hlt hwb2 hbf
              go_wp2_with (at_builtin; refine wp_app1M elemInt rfl _ _ rfl W1 GG pre.length k8 A8 _ rfl (HAO.out.new _) _ _ _ rfl inferInstance rfl (by omega) ?_; intro A3 c3 y3 hown3 hgr3; have p14 := (q14.grow ((Grows.refl _).new _)).apd (HAO.out.new _) hgr3 (by decide); have pe := (qe.grow ((Grows.refl _).new _)).apd (HAO.out.new _) hgr3 (by decide); have HO3 := hide hown3; clear hown3 hgr3)
              have hne14 : ∀ q, A3 = some q → ¬ q.block = b14 := fun q hq e => by
                have h1 := (HO3.out.ty q hq).2
                rw [e] at h1
                exact absurd (p14.ty.one h1) (by decide)
              have ho4 : Own (y3.now.setCell ⟨b14, 0, none⟩ (.slice A3 (pre.length + 1) c3)) W1.heap.size 3 1 A3 (pre ++ [j]).length c3 (nv (pre ++ [j])) := by
                have e9 : nv (pre ++ [j]) = nv pre ++ [.int .i64 (j : Int)] := by simp [nv]
                rw [e9, List.length_append, List.length_singleton]
                exact HO3.out.touch (S := fun k => k = b14) ((Touch.refl (fun k => k = b14) y3.now).set (p := ⟨b14, 0, none⟩) (.inl rfl) _) hne14
              have p4 : Arr (y3.now.setCell ⟨b14, 0, none⟩ (.slice A3 (pre.length + 1) c3)) b14 69 [.slice A3 (pre ++ [j]).length c3, .int .u64 (gn (outL NN xs) sN : Int)] := by
                rw [List.length_append, List.length_singleton]
                exact p14.set 0 _
              have g4 : Grows W1 (y3.now.setCell ⟨b14, 0, none⟩ (.slice A3 (pre.length + 1) c3)) := y3.grows.set (p := ⟨b14, 0, none⟩) hl14 _
              have hfin : (pre ++ [j]) ++ rest2 = l := by
                have h1 := HPL.out
                rw [HRE.out, ← HJI.out] at h1
                simpa using h1
              have hfol3 : Fol (srchOf NN E (backO o)) (outL NN xs) tN (Go.Proofs.YtkfobolbilhjbaaGreat.tN E j) rest2 := by rw [HJI.out]; exact HN0.out.2.2.1
              have HF1 := hide hfin
              have HF2 := hide hfol3
              have HF3 := hide ho4
              clear ho4 hfin hfol3 hne14
              go_roundw
              case measure => simp [Go.RowKit.intOf]; omega
              case rel => exact ⟨Go.Proofs.YtkfobolbilhjbaaGreat.tN E j, pre ++ [j], rest2, A3, c3, HF1.out, ⟨htn, HTF.out⟩, HF2.out, rfl, by simp, ⟨_, g4⟩, rfl, p4, HF3.out⟩
            · rw [HN0.out.2.1 j (by omega) hfv] at hsame
              have hj1 : j + 1 ≤ i0 := by omega
              have htn : Go.Proofs.YtkfobolbilhjbaaGreat.tN E j < NN := (HIN.out.t j hjE).1
              clear hji hfv
              cases hc : cnt2 (srchOf NN E (backO o)) j with
              | false =>
                rw [hc] at CCJ
                clear hc hsame
                go_upto_region 22 with fail
                ((first | refine wp_region_gen (by kernel_rfl) (by kernel_rfl) ?_); (repeat' ((first | refine gLex_val0 rfl (by kernel_rfl) (fun K hK => ?_) | refine gLex_undef rfl rfl rfl (by kernel_rfl) (fun K hK => ?_) | (refine gLex_ask rfl rfl rfl ?_; first | (apply gAsk_yes; kernel_rfl; intro K hK) | ((first | apply gAsk_no1 | apply gAsk_no2); kernel_rfl; intro K hK) | (apply gAsk_part; kernel_rfl; all_goals (intro h K hK; (try simp only [Bool.not_true] at h); (try simp only [Bool.not_false] at h); (try simp only [decide_eq_true_eq] at h); (try simp only [decide_eq_false_iff_not] at h); try (exfalso; first | contradiction | omega))))) <;> (go_simp; (try (simp only [↓IntWalk.iteOmega]; try go_simp)); (try simp (disch := omega) only [IntWalk.i64_in]); (try simp (disch := omega) only [IntWalk.u64_in]); first | (refine hK _ ?_; clear hK K) | (apply Exists.intro; refine ⟨fun x => ?_, hK _ ?_⟩; (first | (go_at_call 57; exact CCJ.out _ GG)); clear hK K)))); all_goals ((apply gLex_end); intro y7))
                go_wp2_with fail
                go_roundw
                case measure => simp [Go.RowKit.intOf]; omega
                case rel => exact ⟨j + 1, hj1, rfl, by go_num, ⟨_, GG⟩, rfl, a14.grow (show Grows y2.now y7.now from GG), HO2.out.grows (show Grows y2.now y7.now from GG)⟩
              | true =>
                rw [hc] at CCJ hsame
                clear hc
                by_cases hlt : du < farV
                · have hne : ¬ xw + du = dv := fun e => by
                    rw [decide_eq_true hlt, decide_eq_true e] at hsame
                    cases hsame
                  unfold farV at hlt
                  have hb1 : decide ((du : Int) < 4611686018427387904) = true := decide_eq_true (by omega)
                  have hb2 : ((xw : Int) + (du : Int) == (dv : Int)) = false := beq_eq_false_iff_ne.2 (by omega)
                  clear hsame hne
                  go_upto_region 22 with fail
                  ((first | refine wp_region_gen (by kernel_rfl) (by kernel_rfl) ?_); (repeat' ((first | refine gLex_val0 rfl (by kernel_rfl) (fun K hK => ?_) | refine gLex_undef rfl rfl rfl (by kernel_rfl) (fun K hK => ?_) | (refine gLex_ask rfl rfl rfl ?_; first | (apply gAsk_yes; kernel_rfl; intro K hK) | ((first | apply gAsk_no1 | apply gAsk_no2); kernel_rfl; intro K hK) | (apply gAsk_part; kernel_rfl; all_goals (intro h K hK; (try simp only [Bool.not_true] at h); (try simp only [Bool.not_false] at h); (try simp only [decide_eq_true_eq] at h); (try simp only [decide_eq_false_iff_not] at h); try (exfalso; first | contradiction | omega))))) <;> (go_simp; (try (simp only [↓IntWalk.iteOmega]; try go_simp)); (try simp (disch := omega) only [IntWalk.i64_in]); (try simp (disch := omega) only [IntWalk.u64_in]); first | (refine hK _ ?_; clear hK K) | (apply Exists.intro; refine ⟨fun x => ?_, hK _ ?_⟩; (first | (go_at_call 57; exact CCJ.out _ GG)); clear hK K)))); all_goals ((apply gLex_end); intro y7))
                  clear hb1 hb2 hbf
                  go_wp2_with fail
                  go_roundw
                  case measure => simp [Go.RowKit.intOf]; omega
                  case rel => exact ⟨j + 1, hj1, rfl, by go_num, ⟨_, GG⟩, rfl, a14.grow (show Grows y2.now y7.now from GG), HO2.out.grows (show Grows y2.now y7.now from GG)⟩
                · unfold farV at hlt
                  have hb1 : decide ((du : Int) < 4611686018427387904) = false := decide_eq_false (by omega)
                  clear hsame hlt
                  go_upto_region 22 with fail
                  ((first | refine wp_region_gen (by kernel_rfl) (by kernel_rfl) ?_); (repeat' ((first | refine gLex_val0 rfl (by kernel_rfl) (fun K hK => ?_) | refine gLex_undef rfl rfl rfl (by kernel_rfl) (fun K hK => ?_) | (refine gLex_ask rfl rfl rfl ?_; first | (apply gAsk_yes; kernel_rfl; intro K hK) | ((first | apply gAsk_no1 | apply gAsk_no2); kernel_rfl; intro K hK) | (apply gAsk_part; kernel_rfl; all_goals (intro h K hK; (try simp only [Bool.not_true] at h); (try simp only [Bool.not_false] at h); (try simp only [decide_eq_true_eq] at h); (try simp only [decide_eq_false_iff_not] at h); try (exfalso; first | contradiction | omega))))) <;> (go_simp; (try (simp only [↓IntWalk.iteOmega]; try go_simp)); (try simp (disch := omega) only [IntWalk.i64_in]); (try simp (disch := omega) only [IntWalk.u64_in]); first | (refine hK _ ?_; clear hK K) | (apply Exists.intro; refine ⟨fun x => ?_, hK _ ?_⟩; (first | (go_at_call 57; exact CCJ.out _ GG)); clear hK K)))); all_goals ((apply gLex_end); intro y7))
                  go_wp2_with fail
                  go_roundw
                  case measure => simp [Go.RowKit.intOf]; omega
                  case rel => exact ⟨j + 1, hj1, rfl, by go_num, ⟨_, GG⟩, rfl, a14.grow (show Grows y2.now y7.now from GG), HO2.out.grows (show Grows y2.now y7.now from GG)⟩
          · have hji : j ≠ i0 := fun e => hfv (by rw [e]; exact HN0.out.2.2.2)
            have hbf : ((Go.Proofs.YtkfobolbilhjbaaGreat.fN E j : Int) == (v : Int)) = false := beq_eq_false_iff_ne.2 (by omega)
            have hj1 : j + 1 ≤ i0 := by omega
            clear hfv hji
            go_wp2_with fail
            ((first | refine wp_region_gen (by kernel_rfl) (by kernel_rfl) ?_); (repeat' ((first | refine gLex_val0 rfl (by kernel_rfl) (fun K hK => ?_) | refine gLex_undef rfl rfl rfl (by kernel_rfl) (fun K hK => ?_) | (refine gLex_ask rfl rfl rfl ?_; first | (apply gAsk_yes; kernel_rfl; intro K hK) | ((first | apply gAsk_no1 | apply gAsk_no2); kernel_rfl; intro K hK) | (apply gAsk_part; kernel_rfl; all_goals (intro h K hK; (try simp only [Bool.not_true] at h); (try simp only [Bool.not_false] at h); (try simp only [decide_eq_true_eq] at h); (try simp only [decide_eq_false_iff_not] at h); try (exfalso; first | contradiction | omega))))) <;> (go_simp; (try (simp only [↓IntWalk.iteOmega]; try go_simp)); (try simp (disch := omega) only [IntWalk.i64_in]); (try simp (disch := omega) only [IntWalk.u64_in]); refine hK _ ?_; clear hK K))); all_goals ((apply gLex_end); intro y7))
            go_wp2_with fail
            go_roundw
            case measure => simp [Go.RowKit.intOf]; omega
            case rel => exact ⟨j + 1, hj1, rfl, by go_num, ⟨_, GG⟩, rfl, a14.grow (show Grows y2.now y7.now from GG), HO2.out.grows (show Grows y2.now y7.now from GG)⟩
end Go.Proofs.YtkfobolbilhjbaaGreat

namespace Go.Proofs.YtkfobolbilhjbaaGreat
open Go Go.RowKit
set_option maxRecDepth 40000 in
set_option maxHeartbeats 8000000 in
theorem r47Right (N : Int) (A : Option Addr) (c : Nat) (E : List Edg) (B : Option Addr) (d : Nat) (D : List Edg) (w : World) (h : Rd w A 3 E.length (esCells E)) (hD : Rd w B 3 D.length (esCells D)) (hn : E.length ≤ 1000000) (hd : D.length ≤ 1000000) :
    Calls Tryz.prog 17 #[.agg #[.int .i64 N, .slice A E.length c], .slice B D.length d] w fun e w' => e = .returned (.int .i64 (fRightF N E D)) ∧ Grows w w' := by
  have C0 := hide (fun (W : World) (g : Grows w W) => r5Right N A E.length c E W (h.grows g) hn)
  have HD := hide hD
  clear h hD
  by_cases h0 : rightF N E = 0
  · rw [h0] at C0
    by_cases h1 : 1000 < D.length
    · have HW : Hid (fRightF N E D = 5) := by unfold fRightF; rw [if_neg (by omega), if_pos h1]; rfl
      clear h0
      go_enter Tryz.func17, Tryz.ntmps17
      go_wp2_with (first | (go_at_call 23; refine (C0.out _ GG).mono ?_; rintro e w' ⟨rfl, hg⟩; (first | obtain ⟨x, rfl⟩ := Grows.later2 hg | obtain ⟨x, rfl⟩ := Grows.later hg); clear hg))
      go_ret
      exact ⟨ret_int HW.out.symm, GG⟩
    · have HN : Hid (fRightF N E D = if D.any (nowhereB N) then 7 else if D.any manyB then 2 else 0) := by unfold fRightF; rw [if_neg (by omega), if_neg h1]; rfl
      clear h0
      go_enter Tryz.func17, Tryz.ntmps17
      go_wp2_with fail
      refine (C0.out _ GG).mono ?_; rintro e w' ⟨rfl, hg⟩; obtain ⟨x0, rfl⟩ := Grows.later hg; clear hg
      go_wp2_with fail
      have HB0 := hide (show Holds x0.now ⟨w.heap.size, 0, none⟩ (.int .i64 N) from inferInstance)
      have HG0 := hide (HD.out.grows (show Grows w x0.now from GG))
      have HS := hide (show Grows w x0.now from GG)
      clear C0
      go_loopw [5] (fun i wr => ∃ k : Nat, k ≤ D.length ∧ i = .int .i64 (k : Int) ∧ (∃ x : Later x0.now, wr = x.now) ∧ ∀ j, j < k → nowhereB N (ge D j) = false) (fun i _ => D.length - (Go.RowKit.intOf i).toNat)
      case atStart => exact ⟨0, by omega, by go_num, ⟨⟨_, Grows.refl _⟩, rfl⟩, fun j h1 => by omega⟩
      case round =>
        obtain ⟨q, hq, rfl, ⟨x, rfl⟩, hall⟩ := hrel
        have HA := hide hall
        clear hall
        by_cases hend : D.length ≤ q
        · have HB := hide (any_false_iff rfl fun j hj => HA.out j (by omega))
          go_wp2_with fail
          go_loopw [6] (fun i wr => ∃ k : Nat, k ≤ D.length ∧ i = .int .i64 (k : Int) ∧ (∃ x : Later x0.now, wr = x.now) ∧ ∀ j, j < k → manyB (ge D j) = false) (fun i _ => D.length - (Go.RowKit.intOf i).toNat)
          case atStart => exact ⟨0, by omega, by go_num, ⟨_, rfl⟩, fun j h1 => by omega⟩
          case round =>
            obtain ⟨r, hr, rfl, ⟨y, rfl⟩, hall⟩ := hrel
            have HC := hide hall
            clear hall
            by_cases hend2 : D.length ≤ r
            · have HW : Hid (fRightF N E D = 0) := by
                have h := any_false_iff (p := manyB) rfl fun j hj => HC.out j (by omega)
                rw [show Hid (fRightF N E D = 0) = (fRightF N E D = 0) from rfl, HN.out, HB.out, h]; rfl
              go_wp2_with fail
              go_ret
              exact ⟨ret_int HW.out.symm, HS.out.trans GG⟩
            · obtain ⟨b, off, rfl, hc⟩ := HG0.out.edgesH (by omega)
              obtain ⟨hc1, hc2, hc3⟩ := hc r (by omega)
              clear hc hc1 hc2
              cases hp : manyB (ge D r) with
              | true =>
                have HW : Hid (fRightF N E D = 2) := by
                  have h := any_true_at (p := manyB) (E := D) (j := r) (by omega) hp
                  rw [show Hid (fRightF N E D = 2) = (fRightF N E D = 2) from rfl, HN.out, HB.out, h]; rfl
                have hp2 : (1099511627776 : Int) < (ge D r).w := of_decide_eq_true hp
                clear hp
                go_wp2_with fail
                go_ret
                exact ⟨ret_int HW.out.symm, HS.out.trans GG⟩
              | false =>
                have hp2 : ¬ (1099511627776 : Int) < (ge D r).w := of_decide_eq_false hp
                have HP := hide hp
                clear hp
                go_wp2_with fail
                go_roundw
                case measure => simp [Go.RowKit.intOf]; omega
                case rel =>
                  refine ⟨r + 1, by omega, by go_num, ⟨_, rfl⟩, fun j h1 => ?_⟩
                  by_cases hj : j = r
                  · rw [hj]; exact HP.out
                  · exact HC.out j (by omega)
        · obtain ⟨b, off, rfl, hc⟩ := HG0.out.edgesH (by omega)
          obtain ⟨hc1, hc2, hc3⟩ := hc q (by omega)
          clear hc hc3
          have HLo := hide (show nowhereB N (ge D q) = (!nodeB N (ge D q).f || !nodeB N (ge D q).t) from rfl)
          have HT : Hid (nowhereB N (ge D q) = true → fRightF N E D = 7) := fun h => by
            have h' := any_true_at (p := nowhereB N) (E := D) (j := q) (by omega) h
            rw [HN.out, h']; rfl
          have k0 := HB0.out
          have hbad : ∀ (hb : nodeB N (ge D q).f = false ∨ nodeB N (ge D q).t = false), fRightF N E D = 7 := fun hb => HT.out (by rw [HLo.out]; rcases hb with hb | hb <;> rw [hb] <;> simp)
          have HBAD := hide hbad
          clear hbad
          by_cases h1 : (ge D q).f < 0
          · have HW := hide (HBAD.out (.inl (decide_eq_false (by omega))))
            have b1 : decide ((ge D q).f < 0) = true := decide_eq_true h1
            go_wp2_with fail
            ((first | refine wp_region_gen2 (by kernel_rfl) (by kernel_rfl) ?_ | refine wp_region_gen (by kernel_rfl) (by kernel_rfl) ?_); (repeat' ((first | refine gLex_val0 rfl (by kernel_rfl) (fun K hK => ?_) | refine gLex_undef rfl rfl rfl (by kernel_rfl) (fun K hK => ?_) | (refine gLex_ask rfl rfl rfl ?_; first | (apply gAsk_yes; kernel_rfl; intro K hK) | ((first | apply gAsk_no1 | apply gAsk_no2); kernel_rfl; intro K hK) | (apply gAsk_part; kernel_rfl; all_goals (intro h K hK; (try simp only [Bool.not_true] at h); (try simp only [Bool.not_false] at h); (try simp only [decide_eq_true_eq] at h); (try simp only [decide_eq_false_iff_not] at h); try (exfalso; first | contradiction | omega))))) <;> (go_simp; (try (simp only [↓IntWalk.iteOmega]; try go_simp)); (try simp (disch := omega) only [IntWalk.i64_in]); (try simp (disch := omega) only [IntWalk.u64_in]); refine hK _ ?_; clear hK K))); all_goals ((apply gLex_end); intro z))
            go_wp2_with fail
            go_ret
            exact ⟨ret_int HW.out.symm, HS.out.trans GG⟩
          have b1 : decide ((ge D q).f < 0) = false := decide_eq_false h1
          by_cases h2 : N ≤ (ge D q).f
          · have HW := hide (HBAD.out (.inl (decide_eq_false (by omega))))
            have b2 : decide (N ≤ (ge D q).f) = true := decide_eq_true h2
            go_wp2_with fail
            ((first | refine wp_region_gen2 (by kernel_rfl) (by kernel_rfl) ?_ | refine wp_region_gen (by kernel_rfl) (by kernel_rfl) ?_); (repeat' ((first | refine gLex_val0 rfl (by kernel_rfl) (fun K hK => ?_) | refine gLex_undef rfl rfl rfl (by kernel_rfl) (fun K hK => ?_) | (refine gLex_ask rfl rfl rfl ?_; first | (apply gAsk_yes; kernel_rfl; intro K hK) | ((first | apply gAsk_no1 | apply gAsk_no2); kernel_rfl; intro K hK) | (apply gAsk_part; kernel_rfl; all_goals (intro h K hK; (try simp only [Bool.not_true] at h); (try simp only [Bool.not_false] at h); (try simp only [decide_eq_true_eq] at h); (try simp only [decide_eq_false_iff_not] at h); try (exfalso; first | contradiction | omega))))) <;> (go_simp; (try (simp only [↓IntWalk.iteOmega]; try go_simp)); (try simp (disch := omega) only [IntWalk.i64_in]); (try simp (disch := omega) only [IntWalk.u64_in]); refine hK _ ?_; clear hK K))); all_goals ((apply gLex_end); intro z))
            go_wp2_with fail
            go_ret
            exact ⟨ret_int HW.out.symm, HS.out.trans GG⟩
          have b2 : decide (N ≤ (ge D q).f) = false := decide_eq_false h2
          by_cases h3 : (ge D q).t < 0
          · have HW := hide (HBAD.out (.inr (decide_eq_false (by omega))))
            have b3 : decide ((ge D q).t < 0) = true := decide_eq_true h3
            go_wp2_with fail
            ((first | refine wp_region_gen2 (by kernel_rfl) (by kernel_rfl) ?_ | refine wp_region_gen (by kernel_rfl) (by kernel_rfl) ?_); (repeat' ((first | refine gLex_val0 rfl (by kernel_rfl) (fun K hK => ?_) | refine gLex_undef rfl rfl rfl (by kernel_rfl) (fun K hK => ?_) | (refine gLex_ask rfl rfl rfl ?_; first | (apply gAsk_yes; kernel_rfl; intro K hK) | ((first | apply gAsk_no1 | apply gAsk_no2); kernel_rfl; intro K hK) | (apply gAsk_part; kernel_rfl; all_goals (intro h K hK; (try simp only [Bool.not_true] at h); (try simp only [Bool.not_false] at h); (try simp only [decide_eq_true_eq] at h); (try simp only [decide_eq_false_iff_not] at h); try (exfalso; first | contradiction | omega))))) <;> (go_simp; (try (simp only [↓IntWalk.iteOmega]; try go_simp)); (try simp (disch := omega) only [IntWalk.i64_in]); (try simp (disch := omega) only [IntWalk.u64_in]); refine hK _ ?_; clear hK K))); all_goals ((apply gLex_end); intro z))
            go_wp2_with fail
            go_ret
            exact ⟨ret_int HW.out.symm, HS.out.trans GG⟩
          have b3 : decide ((ge D q).t < 0) = false := decide_eq_false h3
          by_cases h4 : N ≤ (ge D q).t
          · have HW := hide (HBAD.out (.inr (decide_eq_false (by omega))))
            have b4 : decide (N ≤ (ge D q).t) = true := decide_eq_true h4
            go_wp2_with fail
            ((first | refine wp_region_gen2 (by kernel_rfl) (by kernel_rfl) ?_ | refine wp_region_gen (by kernel_rfl) (by kernel_rfl) ?_); (repeat' ((first | refine gLex_val0 rfl (by kernel_rfl) (fun K hK => ?_) | refine gLex_undef rfl rfl rfl (by kernel_rfl) (fun K hK => ?_) | (refine gLex_ask rfl rfl rfl ?_; first | (apply gAsk_yes; kernel_rfl; intro K hK) | ((first | apply gAsk_no1 | apply gAsk_no2); kernel_rfl; intro K hK) | (apply gAsk_part; kernel_rfl; all_goals (intro h K hK; (try simp only [Bool.not_true] at h); (try simp only [Bool.not_false] at h); (try simp only [decide_eq_true_eq] at h); (try simp only [decide_eq_false_iff_not] at h); try (exfalso; first | contradiction | omega))))) <;> (go_simp; (try (simp only [↓IntWalk.iteOmega]; try go_simp)); (try simp (disch := omega) only [IntWalk.i64_in]); (try simp (disch := omega) only [IntWalk.u64_in]); refine hK _ ?_; clear hK K))); all_goals ((apply gLex_end); intro z))
            go_wp2_with fail
            go_ret
            exact ⟨ret_int HW.out.symm, HS.out.trans GG⟩
          have b4 : decide (N ≤ (ge D q).t) = false := decide_eq_false h4
          have HP := hide (show nowhereB N (ge D q) = false by
            rw [HLo.out, show nodeB N (ge D q).f = true from decide_eq_true (by omega), show nodeB N (ge D q).t = true from decide_eq_true (by omega)]; rfl)
          go_wp2_with fail
          ((first | refine wp_region_gen2 (by kernel_rfl) (by kernel_rfl) ?_ | refine wp_region_gen (by kernel_rfl) (by kernel_rfl) ?_); (repeat' ((first | refine gLex_val0 rfl (by kernel_rfl) (fun K hK => ?_) | refine gLex_undef rfl rfl rfl (by kernel_rfl) (fun K hK => ?_) | (refine gLex_ask rfl rfl rfl ?_; first | (apply gAsk_yes; kernel_rfl; intro K hK) | ((first | apply gAsk_no1 | apply gAsk_no2); kernel_rfl; intro K hK) | (apply gAsk_part; kernel_rfl; all_goals (intro h K hK; (try simp only [Bool.not_true] at h); (try simp only [Bool.not_false] at h); (try simp only [decide_eq_true_eq] at h); (try simp only [decide_eq_false_iff_not] at h); try (exfalso; first | contradiction | omega))))) <;> (go_simp; (try (simp only [↓IntWalk.iteOmega]; try go_simp)); (try simp (disch := omega) only [IntWalk.i64_in]); (try simp (disch := omega) only [IntWalk.u64_in]); refine hK _ ?_; clear hK K))); all_goals ((apply gLex_end); intro z))
          go_wp2_with fail
          go_roundw
          case measure => simp [Go.RowKit.intOf]; omega
          case rel =>
            refine ⟨q + 1, by omega, by go_num, ⟨_, rfl⟩, fun j h1 => ?_⟩
            by_cases hj : j = q
            · rw [hj]; exact HP.out
            · exact HA.out j (by omega)
  · have HW : Hid (fRightF N E D = 1) := by unfold fRightF; rw [if_pos h0]; rfl
    have hb : (rightF N E == 0) = false := beq_eq_false_iff_ne.2 h0
    clear h0
    generalize rightF N E = r at *
    go_enter Tryz.func17, Tryz.ntmps17
    go_wp2_with (first | (go_at_call 23; refine (C0.out _ GG).mono ?_; rintro e w' ⟨rfl, hg⟩; (first | obtain ⟨x, rfl⟩ := Grows.later2 hg | obtain ⟨x, rfl⟩ := Grows.later hg); clear hg))
    go_ret
    exact ⟨ret_int HW.out.symm, GG⟩
end Go.Proofs.YtkfobolbilhjbaaGreat

