/- Contract: the answer's shortest way between two nodes. -/
import Derived.Test.YtgplpgldhoelcaaGreatQPenWays01
import Derived.Test.YtgplpgldhoelcaaGreatQPenWays05
import Derived.Test.YtgplpgldhoelcaaGreatQPenWays07
import Derived.Test.YtgplpgldhoelcaaGreatQPenWays14
namespace Go.Proofs.YtgplpgldhoelcaaGreat
open Go Go.RowKit
attribute [local go_sem] Oper.semAt_some
set_option maxHeartbeats 2000000 in
theorem r15Plain (back : Bool) (A1 : Option Addr) (n1 c1 : Nat) (A2 : Option Addr) (n2 c2 : Nat) (Aw : Option Addr) (nw cw most : Nat) (w : World) : Calls Tryz.prog 149 #[oVal back (.slice A1 n1 c1) (.slice A2 n2 c2) Aw nw cw most] w fun e w' => e = .returned (oVal false (.slice A1 n1 c1) (.slice A2 n2 c2) Aw nw cw 0) ∧ Grows w w' := by
  unfold oVal
  go_enter Tryz.func149, Tryz.ntmps149
  go_wp2
  refine bodyPost_ret (v := .agg #[.bool false, .slice A1 n1 c1, .slice A2 n2 c2, .slice Aw nw cw, .int .u64 0]) (by simp (maxDischargeDepth := 6) [results, Tryz.results149, go_sem, *]) rfl ?_
  exact ⟨rfl, GG⟩
theorem Arr.apd {w w' : World} {B n c g : Nat} {A : Option Addr} {xs cs : List Value} {e t : TypeId} (h : Arr w g t cs) (ho : Own w B e 1 A n c xs) (hg : w.grownBy w' (Value.slice A n c).ownBlock) (hte : t ≠ e) : Arr w' g t cs :=
  h.touch (S := fun k => (Value.slice A n c).ownBlock = some k) ((Touch.refl _ w).grown hg (fun k hk => .inl hk)) (fun e2 => by
    cases A with
    | none => simp [Value.ownBlock] at e2
    | some p =>
      simp [Value.ownBlock] at e2
      have h1 := (ho.ty p rfl).2
      rw [e2] at h1
      exact hte (h.ty.one h1))
def R15St (W1 : World) (b14 lo f : Nat) (A : Option Addr) (c : Nat) (pre : List Nat) (wr : World) : Prop :=
  ∃ y : Later W1, wr = y.now ∧ Arr y.now b14 53 [.slice A pre.length c, .int .u64 (f : Int)] ∧ Own y.now lo 3 1 A pre.length c (nv pre)
set_option maxRecDepth 40000 in
set_option maxHeartbeats 16000000 in
theorem r15Path (N s t : Int) (A : Option Addr) (c : Nat) (E : List Edg) (o : DOpt) (An Ae Aw : Option Addr) (cn ce cw : Nat) (l : List Nat) (f : Nat) (r : Int) (w : World) (h : Rd w A 3 E.length (esCells E)) (h2 : Rd w An 1 o.nn.length (o.nn.map (.int .i64))) (h3 : Rd w Ae 1 o.ne.length (o.ne.map (.int .i64))) (h4 : Rd w Aw 1 o.W.length (wv o.W))
    (hn : E.length ≤ 1000000) (hn3 : o.W.length ≤ 1000000) (hp : IsPath E o N s t l f r) :
    Calls Tryz.prog 88 #[.agg #[.int .i64 N, .slice A E.length c], .int .i64 s, .int .i64 t, oVal o.back (.slice An o.nn.length cn) (.slice Ae o.ne.length ce) Aw o.W.length cw o.most] w fun e w' =>
      ∃ A' c', e = .returned (.tuple #[.agg #[.slice A' l.length c', .int .u64 (f : Int)], .int .i64 r]) ∧ Own w' w.heap.size 3 1 A' l.length c' (nv l) ∧ Grows w w' := by
  have C1 := hide (fun (W : World) => show Calls Tryz.prog 149 #[.agg #[.bool o.back, .slice An o.nn.length cn, .slice Ae o.ne.length ce, .slice Aw o.W.length cw, .int .u64 (o.most : Int)]] W fun e w' => e = .returned (.agg #[.bool false, .slice An o.nn.length cn, .slice Ae o.ne.length ce, .slice Aw o.W.length cw, .int .u64 0]) ∧ Grows W w' from r15Plain o.back An o.nn.length cn Ae o.ne.length ce Aw o.W.length cw o.most W)
  have C2 := hide (fun (W : World) (g : Grows w W) => show Calls Tryz.prog 150 #[.agg #[.int .i64 N, .slice A E.length c], .int .i64 s, .agg #[.bool false, .slice An o.nn.length cn, .slice Ae o.ne.length ce, .slice Aw o.W.length cw, .int .u64 0]] W fun e w' => e = .returned (.int .i64 (dcF N s E o.W)) ∧ Grows W w' from r14Check N s A E.length c E false (.slice An o.nn.length cn) (.slice Ae o.ne.length ce) Aw o.W.length cw 0 o.W W (h.grows g) (h4.grows g) hn hn3)
  unfold oVal
  generalize o.most = mo at *
  generalize o.back = back at *
  cases hp with
  | bad hd =>
    have hr2 : (dcF N s E o.W == 0) = false := beq_eq_false_iff_ne.2 hd
    clear h h2 h3 h4 hd
    generalize dcF N s E o.W = r at *
    go_enter Tryz.func88, Tryz.ntmps88
    go_wp2_with fail
    refine (C1.out _).mono ?_; rintro e W0 ⟨rfl, hg⟩
    have a4 : Arr W0 w.heap.size 35 [.int .i64 (N), .slice A E.length c] := Arr.grow ⟨by simp [heap_push, Array.getElem_push, Array.getElem?_push, eq_add2]⟩ hg
    have a7 : Arr W0 (w.heap.size + 1) 141 [.bool back, .slice An o.nn.length cn, .slice Ae o.ne.length ce, .slice Aw o.W.length cw, .int .u64 (mo : Int)] := Arr.grow ⟨by simp [heap_push, Array.getElem_push]⟩ hg
    have a8 : Arr W0 (w.heap.size + 1 + 1) 53 [.slice none 0 0, .int .u64 0] := Arr.grow ⟨by simp [heap_push, Array.getElem_push]⟩ hg
    have hgw : Grows w W0 := Grows.trans (by exact GG) hg
    obtain ⟨b4, e4⟩ : ∃ b, w.heap.size = b := ⟨_, rfl⟩
    have hb : w.heap.size ≤ b4 := by omega
    rw [e4] at a4 a7 a8 ⊢
    clear e4 hg C1
    have hb2 : b4 < b4 + 1 ∧ b4 + 1 < b4 + 1 + 1 := by omega
    generalize b4 + 1 + 1 = b8 at *
    generalize b4 + 1 = b7 at *
    obtain ⟨y, rfl⟩ := hgw.later
    clear hgw
    go_wp2_with fail
    have g5 : Grows w (cells5 y.now b7 (.bool false) (.slice An o.nn.length cn) (.slice Ae o.ne.length ce) (.slice Aw o.W.length cw) (.int .u64 0)) := Grows.set5 y.grows (by omega)
    refine (C2.out _ g5).mono ?_; rintro e W0 ⟨rfl, hg⟩
    replace g5 := g5.trans hg
    have c4 := (a4.other5 (b := b7) (by omega)).grow hg
    have c7 := (a7.set5).grow hg
    have c8 := (a8.other5 (b := b7) (by omega)).grow hg
    clear a4 a7 a8 hg
    obtain ⟨y1, rfl⟩ := g5.later
    clear g5
    go_wp2_with fail
    refine bodyPost_ret (v := .tuple #[.agg #[.slice none 0 0, .int .u64 0], .int .i64 (r)]) (by simp (maxDischargeDepth := 6) [results, Tryz.results88, go_sem, *]) rfl ?_
    exact ⟨none, 0, rfl, Own.nil _ _ _ _, GG⟩
  | noNode hd ht =>
    rw [hd] at C2
    clear h h2 h3 h4 hd
    by_cases ht0 : t < 0
    · have hb0 : decide (t < 0) = true := decide_eq_true ht0
      clear ht ht0
      go_enter Tryz.func88, Tryz.ntmps88
      go_wp2_with fail
      refine (C1.out _).mono ?_; rintro e W0 ⟨rfl, hg⟩
      have a4 : Arr W0 w.heap.size 35 [.int .i64 (N), .slice A E.length c] := Arr.grow ⟨by simp [heap_push, Array.getElem_push, Array.getElem?_push, eq_add2]⟩ hg
      have a7 : Arr W0 (w.heap.size + 1) 141 [.bool back, .slice An o.nn.length cn, .slice Ae o.ne.length ce, .slice Aw o.W.length cw, .int .u64 (mo : Int)] := Arr.grow ⟨by simp [heap_push, Array.getElem_push]⟩ hg
      have a8 : Arr W0 (w.heap.size + 1 + 1) 53 [.slice none 0 0, .int .u64 0] := Arr.grow ⟨by simp [heap_push, Array.getElem_push]⟩ hg
      have hgw : Grows w W0 := Grows.trans (by exact GG) hg
      obtain ⟨b4, e4⟩ : ∃ b, w.heap.size = b := ⟨_, rfl⟩
      have hb : w.heap.size ≤ b4 := by omega
      rw [e4] at a4 a7 a8 ⊢
      clear e4 hg C1
      have hb2 : b4 < b4 + 1 ∧ b4 + 1 < b4 + 1 + 1 := by omega
      generalize b4 + 1 + 1 = b8 at *
      generalize b4 + 1 = b7 at *
      obtain ⟨y, rfl⟩ := hgw.later
      clear hgw
      go_wp2_with fail
      have g5 : Grows w (cells5 y.now b7 (.bool false) (.slice An o.nn.length cn) (.slice Ae o.ne.length ce) (.slice Aw o.W.length cw) (.int .u64 0)) := Grows.set5 y.grows (by omega)
      refine (C2.out _ g5).mono ?_; rintro e W0 ⟨rfl, hg⟩
      replace g5 := g5.trans hg
      have c4 := (a4.other5 (b := b7) (by omega)).grow hg
      have c7 := (a7.set5).grow hg
      have c8 := (a8.other5 (b := b7) (by omega)).grow hg
      clear a4 a7 a8 hg
      obtain ⟨y1, rfl⟩ := g5.later
      clear g5
      go_wp2_with fail
      refine bodyPost_ret (v := .tuple #[.agg #[.slice none 0 0, .int .u64 0], .int .i64 (7)]) (by simp (maxDischargeDepth := 6) [results, Tryz.results88, go_sem, *]) rfl ?_
      exact ⟨none, 0, rfl, Own.nil _ _ _ _, GG⟩
    · have hb0 : decide (t < 0) = false := decide_eq_false ht0
      have hb1 : decide (N ≤ t) = true := decide_eq_true (by omega)
      clear ht ht0
      go_enter Tryz.func88, Tryz.ntmps88
      go_wp2_with fail
      refine (C1.out _).mono ?_; rintro e W0 ⟨rfl, hg⟩
      have a4 : Arr W0 w.heap.size 35 [.int .i64 (N), .slice A E.length c] := Arr.grow ⟨by simp [heap_push, Array.getElem_push, Array.getElem?_push, eq_add2]⟩ hg
      have a7 : Arr W0 (w.heap.size + 1) 141 [.bool back, .slice An o.nn.length cn, .slice Ae o.ne.length ce, .slice Aw o.W.length cw, .int .u64 (mo : Int)] := Arr.grow ⟨by simp [heap_push, Array.getElem_push]⟩ hg
      have a8 : Arr W0 (w.heap.size + 1 + 1) 53 [.slice none 0 0, .int .u64 0] := Arr.grow ⟨by simp [heap_push, Array.getElem_push]⟩ hg
      have hgw : Grows w W0 := Grows.trans (by exact GG) hg
      obtain ⟨b4, e4⟩ : ∃ b, w.heap.size = b := ⟨_, rfl⟩
      have hb : w.heap.size ≤ b4 := by omega
      rw [e4] at a4 a7 a8 ⊢
      clear e4 hg C1
      have hb2 : b4 < b4 + 1 ∧ b4 + 1 < b4 + 1 + 1 := by omega
      generalize b4 + 1 + 1 = b8 at *
      generalize b4 + 1 = b7 at *
      obtain ⟨y, rfl⟩ := hgw.later
      clear hgw
      go_wp2_with fail
      have g5 : Grows w (cells5 y.now b7 (.bool false) (.slice An o.nn.length cn) (.slice Ae o.ne.length ce) (.slice Aw o.W.length cw) (.int .u64 0)) := Grows.set5 y.grows (by omega)
      refine (C2.out _ g5).mono ?_; rintro e W0 ⟨rfl, hg⟩
      replace g5 := g5.trans hg
      have c4 := (a4.other5 (b := b7) (by omega)).grow hg
      have c7 := (a7.set5).grow hg
      have c8 := (a8.other5 (b := b7) (by omega)).grow hg
      clear a4 a7 a8 hg
      obtain ⟨y1, rfl⟩ := g5.later
      clear g5
      go_wp2_with fail
      refine bodyPost_ret (v := .tuple #[.agg #[.slice none 0 0, .int .u64 0], .int .i64 (7)]) (by simp (maxDischargeDepth := 6) [results, Tryz.results88, go_sem, *]) rfl ?_
      exact ⟨none, 0, rfl, Own.nil _ _ _ _, GG⟩
  | noPath NN sN tN xs hN hs ht hok hf =>
    subst hN hs ht
    have HR := hide (And.intro h (And.intro h2 (And.intro h3 h4)))
    have HOK := hide hok
    rw [hok.dcs] at C2
    have hb0 : decide ((tN : Int) < 0) = false := decide_eq_false (by omega)
    have hb1 : tN < NN := hok.ok.node
    have hsN := hok.node
    have C4 := hide (fun (W1 : World) (g : Grows w W1) => show Calls Tryz.prog 151 #[.agg #[.int .i64 (NN : Int), .slice A E.length c], .int .i64 (tN : Int), .agg #[.bool true, .slice An o.nn.length cn, .slice Ae o.ne.length ce, .slice Aw o.W.length cw, .int .u64 0]] W1 fun e w' =>
      ∃ go, e = .returned (.slice (some ⟨go, 0, none⟩) NN NN) ∧ Row1 w' go 41 1 NN NN (wv (outL NN xs)) ∧ Grows W1 w' from by
      rw [← hok.ref]
      exact r14All NN tN A c E (backO o) An Ae Aw cn ce cw W1 (h.grows g) (h2.grows g) (h3.grows g) (h4.grows g) hok.ok (fun i hi => (hok.wb i hi).2))
    have HDL := hide (outL_len NN xs)
    clear h h2 h3 h4
    clear hok
    go_enter Tryz.func88, Tryz.ntmps88
    go_wp2_with fail
    refine (C1.out _).mono ?_; rintro e W0 ⟨rfl, hg⟩
    have a4 : Arr W0 w.heap.size 35 [.int .i64 ((NN : Int)), .slice A E.length c] := Arr.grow ⟨by simp [heap_push, Array.getElem_push, Array.getElem?_push, eq_add2]⟩ hg
    have a7 : Arr W0 (w.heap.size + 1) 141 [.bool back, .slice An o.nn.length cn, .slice Ae o.ne.length ce, .slice Aw o.W.length cw, .int .u64 (mo : Int)] := Arr.grow ⟨by simp [heap_push, Array.getElem_push]⟩ hg
    have a8 : Arr W0 (w.heap.size + 1 + 1) 53 [.slice none 0 0, .int .u64 0] := Arr.grow ⟨by simp [heap_push, Array.getElem_push]⟩ hg
    have hgw : Grows w W0 := Grows.trans (by exact GG) hg
    obtain ⟨b4, e4⟩ : ∃ b, w.heap.size = b := ⟨_, rfl⟩
    have hb : w.heap.size ≤ b4 := by omega
    rw [e4] at a4 a7 a8 ⊢
    clear e4 hg C1
    have hb2 : b4 < b4 + 1 ∧ b4 + 1 < b4 + 1 + 1 := by omega
    generalize b4 + 1 + 1 = b8 at *
    generalize b4 + 1 = b7 at *
    obtain ⟨y, rfl⟩ := hgw.later
    clear hgw
    go_wp2_with fail
    have g5 : Grows w (cells5 y.now b7 (.bool false) (.slice An o.nn.length cn) (.slice Ae o.ne.length ce) (.slice Aw o.W.length cw) (.int .u64 0)) := Grows.set5 y.grows (by omega)
    refine (C2.out _ g5).mono ?_; rintro e W0 ⟨rfl, hg⟩
    replace g5 := g5.trans hg
    have c4 := (a4.other5 (b := b7) (by omega)).grow hg
    have c7 := (a7.set5).grow hg
    have c8 := (a8.other5 (b := b7) (by omega)).grow hg
    clear a4 a7 a8 hg
    obtain ⟨y1, rfl⟩ := g5.later
    clear g5
    go_wp2_with fail
    refine (C4.out _ GG).mono ?_; rintro e W0 ⟨gf, rfl, hrow, hg⟩
    replace c4 := (c4.grow ((Grows.refl _).new _)).grow hg
    replace c7 := (c7.grow ((Grows.refl _).new _)).grow hg
    replace c8 := (c8.grow ((Grows.refl _).new _)).grow hg
    have g8 := (y1.grows.new _).trans hg
    clear hg
    obtain ⟨y3, rfl⟩ := g8.later
    clear g8
    have kf : Mine y3.now ⟨gf, sN, none⟩ (.int .u64 4611686018427387904) := by
      have := hrow.mine (j := sN) (wv_at (W := outL NN xs) (by rw [HDL.out]; exact hsN))
      rw [hf] at this
      exact this
    clear hrow
    go_wp2_with fail
    refine bodyPost_ret (v := .tuple #[.agg #[.slice none 0 0, .int .u64 0], .int .i64 (9)]) (by simp (maxDischargeDepth := 6) [results, Tryz.results88, go_sem, *]) rfl ?_
    exact ⟨none, 0, rfl, Own.nil _ _ _ _, GG⟩
  | way NN sN tN xs l hN hs ht hok hf hnear hfol =>
    subst hN hs ht
    have HR := hide (And.intro h (And.intro h2 (And.intro h3 h4)))
    have HOK := hide hok
    rw [hok.dcs] at C2
    have hb0 : decide ((tN : Int) < 0) = false := decide_eq_false (by omega)
    have hb1 : tN < NN := hok.ok.node
    have hsN := hok.node
    have C4 := hide (fun (W1 : World) (g : Grows w W1) => show Calls Tryz.prog 151 #[.agg #[.int .i64 (NN : Int), .slice A E.length c], .int .i64 (tN : Int), .agg #[.bool true, .slice An o.nn.length cn, .slice Ae o.ne.length ce, .slice Aw o.W.length cw, .int .u64 0]] W1 fun e w' =>
      ∃ go, e = .returned (.slice (some ⟨go, 0, none⟩) NN NN) ∧ Row1 w' go 41 1 NN NN (wv (outL NN xs)) ∧ Grows W1 w' from by
      rw [← hok.ref]
      exact r14All NN tN A c E (backO o) An Ae Aw cn ce cw W1 (h.grows g) (h2.grows g) (h3.grows g) (h4.grows g) hok.ok (fun i hi => (hok.wb i hi).2))
    have HDL := hide (outL_len NN xs)
    clear h h2 h3 h4
    have hlN : l.length < NN := hfol.short hnear hok.node
    have hNb : NN ≤ 4096 := hok.bound.2.1
    have hEb : E.length ≤ 16384 := hok.bound.2.2
    have HNEAR := hide hnear
    have HFOL := hide hfol
    have HFAR := hide hf
    have hlt : gn (outL NN xs) sN < 4611686018427387904 := by unfold farV at hf; exact hf
    have hbd : decide ((4611686018427387904 : Int) ≤ (gn (outL NN xs) sN : Int)) = false := decide_eq_false (by omega)
    have HX := hide (show (wtF NN E o.W).length = E.length from hok.ok.wlen)
    have HIN := hide (show InN NN E from hok.ok.srch.ends)
    have C6 := hide (fun (W1 : World) (g1 : Grows w W1) => show Calls Tryz.prog 89 #[.agg #[.int .i64 (NN : Int), .slice A E.length c], .agg #[.bool false, .slice An o.nn.length cn, .slice Ae o.ne.length ce, .slice Aw o.W.length cw, .int .u64 0]] W1 fun e w' => ∃ A9 c9, e = .returned (.slice A9 E.length c9) ∧ Rd w' A9 1 E.length (wv (wtF NN E o.W)) ∧ Grows W1 w' from
      (r14Weights NN A E.length c E false (.slice An o.nn.length cn) (.slice Ae o.ne.length ce) Aw o.W.length cw 0 o.W W1 (HR.out.1.grows g1) (HR.out.2.2.2.grows g1) hn hn3).mono (fun e w' h => by
        obtain ⟨A9, c9, rfl, ho, hg⟩ := h
        have e9 : (wtF NN E o.W).length = E.length := HOK.out.ok.wlen
        have ho := ho.rd
        rw [e9] at ho ⊢
        exact ⟨A9, c9, rfl, ho, hg⟩))
    have CC := hide (fun (W1 : World) (g : Grows w W1) (i : Nat) (hi : i < E.length) => show Calls Tryz.prog 152 #[.agg #[.int .i64 (NN : Int), .slice A E.length c], .int .i64 (i : Int), .agg #[.bool false, .slice An o.nn.length cn, .slice Ae o.ne.length ce, .slice Aw o.W.length cw, .int .u64 0]] W1 fun e w' => e = .returned (.bool (cnt2 (srchOf NN E (backO o)) i)) ∧ Grows W1 w' from
      r14Counts NN A c E ⟨false, o.nn, o.ne, o.W, 0⟩ An Ae Aw cn ce cw i W1 (HR.out.1.grows g) (HR.out.2.1.grows g) (HR.out.2.2.1.grows g) HOK.out.ok.nns HOK.out.ok.nes hn hi (HIN.out.f i hi).2 (HIN.out.t i hi).2)
    have HWB := hide hok.wb
    clear hok hf hnear hfol hlt
    go_enter Tryz.func88, Tryz.ntmps88
    go_wp2_with fail
    refine (C1.out _).mono ?_; rintro e W0 ⟨rfl, hg⟩
    have a4 : Arr W0 w.heap.size 35 [.int .i64 ((NN : Int)), .slice A E.length c] := Arr.grow ⟨by simp [heap_push, Array.getElem_push, Array.getElem?_push, eq_add2]⟩ hg
    have a7 : Arr W0 (w.heap.size + 1) 141 [.bool back, .slice An o.nn.length cn, .slice Ae o.ne.length ce, .slice Aw o.W.length cw, .int .u64 (mo : Int)] := Arr.grow ⟨by simp [heap_push, Array.getElem_push]⟩ hg
    have a8 : Arr W0 (w.heap.size + 1 + 1) 53 [.slice none 0 0, .int .u64 0] := Arr.grow ⟨by simp [heap_push, Array.getElem_push]⟩ hg
    have hgw : Grows w W0 := Grows.trans (by exact GG) hg
    obtain ⟨b4, e4⟩ : ∃ b, w.heap.size = b := ⟨_, rfl⟩
    have hb : w.heap.size ≤ b4 := by omega
    rw [e4] at a4 a7 a8 ⊢
    clear e4 hg C1
    have hb2 : b4 < b4 + 1 ∧ b4 + 1 < b4 + 1 + 1 := by omega
    generalize b4 + 1 + 1 = b8 at *
    generalize b4 + 1 = b7 at *
    obtain ⟨y, rfl⟩ := hgw.later
    clear hgw
    go_wp2_with fail
    have g5 : Grows w (cells5 y.now b7 (.bool false) (.slice An o.nn.length cn) (.slice Ae o.ne.length ce) (.slice Aw o.W.length cw) (.int .u64 0)) := Grows.set5 y.grows (by omega)
    refine (C2.out _ g5).mono ?_; rintro e W0 ⟨rfl, hg⟩
    replace g5 := g5.trans hg
    have c4 := (a4.other5 (b := b7) (by omega)).grow hg
    have c7 := (a7.set5).grow hg
    have c8 := (a8.other5 (b := b7) (by omega)).grow hg
    clear a4 a7 a8 hg
    obtain ⟨y1, rfl⟩ := g5.later
    clear g5
    go_wp2_with fail
    refine (C4.out _ GG).mono ?_; rintro e W0 ⟨gf, rfl, hrow, hg⟩
    replace c4 := (c4.grow ((Grows.refl _).new _)).grow hg
    replace c7 := (c7.grow ((Grows.refl _).new _)).grow hg
    replace c8 := (c8.grow ((Grows.refl _).new _)).grow hg
    have g8 := (y1.grows.new _).trans hg
    clear hg
    obtain ⟨y3, rfl⟩ := g8.later
    clear g8
    have kf : Mine y3.now ⟨gf, sN, none⟩ (.int .u64 (gn (outL NN xs) sN : Int)) := hrow.mine (j := sN) (wv_at (W := outL NN xs) (by rw [HDL.out]; exact hsN))
    have HROW := hide hrow
    clear hrow
    go_wp2_with fail
    refine (C6.out _ GG).mono ?_; rintro e W1 ⟨A9, c9, rfl, hx, hg⟩
    have HX9 := hide hx
    have HROW := hide (HROW.out.grow hg)
    replace c4 := c4.grow hg
    replace c7 := c7.grow hg
    replace c8 := c8.grow hg
    replace kf : Mine W1 ⟨gf, sN, none⟩ (.int .u64 (gn (outL NN xs) sN : Int)) := HROW.out.mine (j := sN) (wv_at (W := outL NN xs) (by rw [HDL.out]; exact hsN))
    have g9 := y3.grows.trans hg
    clear hg hx
    have hb8 := c8.ty.lt
    have hW1 := g9.size
    have KV := hide (fun (v : Nat) (hv : v < NN) => show Mine W1 ⟨gf, v, none⟩ (.int .u64 (gn (outL NN xs) v : Int)) from HROW.out.mine (j := v) (wv_at (W := outL NN xs) (by rw [HDL.out]; exact hv)))
    go_wp2_with fail
    have r0 : R15St W1 W1.heap.size W1.heap.size (gn (outL NN xs) sN) none 0 [] (W1.alloc (.cells #[.slice none 0 0, .int .u64 (gn (outL NN xs) sN : Int)] 53)) := ⟨⟨_, (Grows.refl _).new _⟩, rfl, Arr.make _ _ _, Own.nil _ _ _ _⟩
    obtain ⟨b14, e14⟩ : ∃ b, W1.heap.size = b := ⟨_, rfl⟩
    have hl14 : W1.heap.size ≤ b14 := by omega
    have r0 : R15St W1 b14 W1.heap.size (gn (outL NN xs) sN) none 0 [] (W1.alloc (.cells #[.slice none 0 0, .int .u64 (gn (outL NN xs) sN : Int)] 53)) := by rw [← e14]; exact r0
    rw [e14]
    clear e14
    go_loopw [15, 16] (fun vv nk wr => ∃ (v : Nat) (pre rest : List Nat) (A8 : Option Addr) (k8 : Nat), pre ++ rest = l ∧ (v < NN ∧ gn (outL NN xs) v < farV) ∧ Fol (srchOf NN E (backO o)) (outL NN xs) tN v rest ∧ vv = .int .i64 (v : Int) ∧ nk = .int .i64 (pre.length : Int) ∧ R15St W1 b14 W1.heap.size (gn (outL NN xs) sN) A8 k8 pre wr) (fun _ nk _ => NN + 1 - (Go.RowKit.intOf nk).toNat)
    case atStart => exact ⟨sN, [], l, none, 0, rfl, ⟨hsN, HFAR.out⟩, HFOL.out, rfl, by go_num, r0⟩
    case round =>
      obtain ⟨v, pre, rest, A8, k8, hpl, ⟨hv, hvfar⟩, hfol, rfl, rfl, ⟨y, rfl, a14, ho⟩⟩ := hrel
      have hpre : pre.length < NN := by
        have := congrArg List.length hpl
        simp at this
        omega
      have hle : pre.length ≤ NN := by omega
      have HVF := hide hvfar
      have HO := hide ho
      have HPL := hide hpl
      have HF := hide hfol
      clear ho hpl hfol r0 hvfar
      by_cases hvt : v = tN
      · subst hvt
        have er := HF.out.end_
        subst er
        have HPL := hide (show pre = l by have := HPL.out; simpa using this)
        have hyz := y.size
        have hbw : w.heap.size ≤ b8 := by omega
        have ho2 := (HO.out.low (q := ⟨b8, 0, none⟩) (by show b8 < _; omega) (.slice A8 pre.length k8)).low (q := ⟨b8, 1, none⟩) (by show b8 < _; omega) (.int .u64 (gn (outL NN xs) sN : Int))
        have HO2 := hide (ho2.base hW1)
        have hwy : Grows w y.now := g9.trans y.grows
        have g10 : Grows w ((y.now.setCell ⟨b8, 0, none⟩ (.slice A8 pre.length k8)).setCell ⟨b8, 1, none⟩ (.int .u64 (gn (outL NN xs) sN : Int))) := (hwy.set (p := ⟨b8, 0, none⟩) hbw _).set (p := ⟨b8, 1, none⟩) hbw _
        clear ho2 HO hwy
        go_wp2_with fail
        refine bodyPost_ret (v := .tuple #[.agg #[.slice A8 pre.length k8, .int .u64 (gn (outL NN xs) sN : Int)], .int .i64 0]) (by simp (maxDischargeDepth := 6) [results, Tryz.results88, go_sem, *]) rfl ?_
        refine ⟨A8, k8, by rw [HPL.out], ?_, g10⟩
        rw [← HPL.out]
        exact HO2.out
      · obtain ⟨i0, rest2, hre, hi0, hfi0, hnb0, hlt0, hfol2⟩ := HF.out.next hvt
        have hbv : ((v : Int) != (tN : Int)) = true := by simpa using (by omega : ¬ (v : Int) = (tN : Int))
        have HRE := hide hre
        have HN0 := hide (And.intro hnb0 (And.intro hlt0 (And.intro hfol2 hfi0)))
        have hi0 : i0 < E.length := hi0
        clear hvt hre hnb0 hlt0 hfol2
        have hleb : decide (pre.length ≤ NN) = true := decide_eq_true hle
        clear hle
        go_wp2_with fail
        go_loopw [15, 17] (fun vv jk wr => ∃ j : Nat, j ≤ i0 ∧ vv = .int .i64 (v : Int) ∧ jk = .int .i64 (j : Int) ∧ R15St W1 b14 W1.heap.size (gn (outL NN xs) sN) A8 k8 pre wr) (fun _ jk _ => i0 + 1 - (Go.RowKit.intOf jk).toNat)
        case atStart => exact ⟨0, Nat.zero_le _, rfl, by go_num, y, rfl, a14, HO.out⟩
        case round =>
          obtain ⟨j, hj, rfl, rfl, ⟨y2, rfl, a14, ho2⟩⟩ := hrel
          have HO2 := hide ho2
          have hjE : j < E.length := by omega
          have hto := (HIN.out.t j hjE)
          have hfr := (HIN.out.f j hjE)
          obtain ⟨bx, offx, rfl, hcx⟩ := HX9.out.at_ (by omega)
          have kx : Holds W1 ⟨bx, offx + j, none⟩ (.int .u64 (gn (wtF NN E o.W) j : Int)) := ⟨hcx _ _ (wv_at (by rw [HX.out]; exact hjE))⟩
          have kt := KV.out (Go.Proofs.YtgplpgldhoelcaaGreat.tN E j) hto.1
          have kv := KV.out v hv
          obtain ⟨b9, off9, rfl, hc9⟩ := HR.out.1.edgesH (by omega)
          obtain ⟨z1', z2', z3'⟩ := hc9 j hjE
          have z1 : Holds W1 _ _ := ⟨g9.keeps z1'.cell⟩
          have z2 : Holds W1 _ _ := ⟨g9.keeps z2'.cell⟩
          have z3 : Holds W1 _ _ := ⟨g9.keeps z3'.cell⟩
          have CCJ := hide (fun (W : World) (g : Grows w W) => CC.out W g j hjE)
          rw [hfr.2] at z1
          rw [hto.2] at z2
          clear hcx hc9 z1' z2' z3' ho2 hto hfr
          have hwb2 := (HWB.out j hjE).2
          obtain ⟨du, hdu⟩ : ∃ z, gn (outL NN xs) (Go.Proofs.YtgplpgldhoelcaaGreat.tN E j) = z := ⟨_, rfl⟩
          obtain ⟨dv, hdv⟩ : ∃ z, gn (outL NN xs) v = z := ⟨_, rfl⟩
          obtain ⟨xw, hxw⟩ : ∃ z, gn (wtF NN E o.W) j = z := ⟨_, rfl⟩
          rw [hdu] at kt
          rw [hdv] at kv
          rw [hxw] at kx hwb2
          have HDU := hide hdu
          have HDV := hide hdv
          have HXW := hide hxw
          clear hdu hdv hxw
          by_cases hfv : Go.Proofs.YtgplpgldhoelcaaGreat.fN E j = v
          · have hbf : ((Go.Proofs.YtgplpgldhoelcaaGreat.fN E j : Int) == (v : Int)) = true := by rw [hfv]; simp
            have hsame : (cnt2 (srchOf NN E (backO o)) j && decide (gn (outL NN xs) (Go.Proofs.YtgplpgldhoelcaaGreat.tN E j) < farV) && decide (gn (wtF NN E o.W) j + gn (outL NN xs) (Go.Proofs.YtgplpgldhoelcaaGreat.tN E j) = gn (outL NN xs) v)) = nearB (srchOf NN E (backO o)) (outL NN xs) v j := HNEAR.out.same (i := j) hjE hfv HVF.out
            rw [HDU.out, HDV.out, HXW.out] at hsame
            by_cases hji : j = i0
            · have hnb : nearB (srchOf NN E (backO o)) (outL NN xs) v j = true := by rw [hji]; exact HN0.out.1
              rw [hnb] at hsame
              simp only [Bool.and_eq_true, decide_eq_true_eq] at hsame
              obtain ⟨⟨hc, hlt⟩, heq⟩ := hsame
              rw [hc] at CCJ
              have htf := (nearB_yes hnb).1
              have HTF := hide (show gn (outL NN xs) (Go.Proofs.YtgplpgldhoelcaaGreat.tN E j) < farV from htf)
              have htn : Go.Proofs.YtgplpgldhoelcaaGreat.tN E j < NN := (HIN.out.t j hjE).1
              unfold farV at hlt
              have hb1 : decide ((du : Int) < 4611686018427387904) = true := decide_eq_true (by omega)
              have hb2 : ((xw : Int) + (du : Int) == (dv : Int)) = true := by simpa using (by omega : (xw : Int) + (du : Int) = (dv : Int))
              have HJI := hide hji
              have HFV := hide hfv
              clear hc heq hnb htf hji hfv
              go_upto_region 22 with fail
              ((first | refine wp_region_gen (by kernel_rfl) (by kernel_rfl) ?_); (repeat' ((first | refine gLex_val0 rfl (by kernel_rfl) (fun K hK => ?_) | refine gLex_undef rfl rfl rfl (by kernel_rfl) (fun K hK => ?_) | (refine gLex_ask rfl rfl rfl ?_; first | (apply gAsk_yes; kernel_rfl; intro K hK) | ((first | apply gAsk_no1 | apply gAsk_no2); kernel_rfl; intro K hK) | (apply gAsk_part; kernel_rfl; all_goals (intro h K hK; (try simp only [Bool.not_true] at h); (try simp only [Bool.not_false] at h); (try simp only [decide_eq_true_eq] at h); (try simp only [decide_eq_false_iff_not] at h); try (exfalso; first | contradiction | omega))))) <;> (go_simp; (try (simp only [↓IntWalk.iteOmega]; try go_simp)); (try simp (disch := omega) only [IntWalk.i64_in]); (try simp (disch := omega) only [IntWalk.u64_in]); first | (refine hK _ ?_; clear hK K) | (apply Exists.intro; refine ⟨fun x => ?_, hK _ ?_⟩; (first | (go_at_call 152; exact CCJ.out _ GG)); clear hK K)))); all_goals ((apply gLex_end); intro y7))
              have ao := HO2.out.grows (show Grows y2.now y7.now from GG)
              have q14 := a14.grow (show Grows y2.now y7.now from GG)
              have HAO := hide ao
              have qe : Arr y7.now y2.now.heap.size 84 [.int .i64 (Go.Proofs.YtgplpgldhoelcaaGreat.fN E j : Int), .int .i64 (Go.Proofs.YtgplpgldhoelcaaGreat.tN E j : Int), .int .u64 (ge E j).w] := (Arr.make y2.now _ _).grow y7.grows
              clear ao hb1 hb2 hlt hwb2 hbf
              go_wp2_with (at_builtin; refine wp_app1M elemInt rfl _ _ rfl W1 GG pre.length k8 A8 _ rfl (HAO.out.new _) _ _ _ rfl inferInstance rfl (by omega) ?_; intro A3 c3 y3 hown3 hgr3; have p14 := (q14.grow ((Grows.refl _).new _)).apd (HAO.out.new _) hgr3 (by decide); have pe := (qe.grow ((Grows.refl _).new _)).apd (HAO.out.new _) hgr3 (by decide); have HO3 := hide hown3; clear hown3 hgr3)
              have hne14 : ∀ q, A3 = some q → ¬ q.block = b14 := fun q hq e => by
                have h1 := (HO3.out.ty q hq).2
                rw [e] at h1
                exact absurd (p14.ty.one h1) (by decide)
              have ho4 : Own (y3.now.setCell ⟨b14, 0, none⟩ (.slice A3 (pre.length + 1) c3)) W1.heap.size 3 1 A3 (pre ++ [j]).length c3 (nv (pre ++ [j])) := by
                have e9 : nv (pre ++ [j]) = nv pre ++ [.int .i64 (j : Int)] := by simp [nv]
                rw [e9, List.length_append, List.length_singleton]
                exact HO3.out.touch (S := fun k => k = b14) ((Touch.refl (fun k => k = b14) y3.now).set (p := ⟨b14, 0, none⟩) (.inl rfl) _) hne14
              have p4 : Arr (y3.now.setCell ⟨b14, 0, none⟩ (.slice A3 (pre.length + 1) c3)) b14 53 [.slice A3 (pre ++ [j]).length c3, .int .u64 (gn (outL NN xs) sN : Int)] := by
                rw [List.length_append, List.length_singleton]
                exact p14.set 0 _
              have g4 : Grows W1 (y3.now.setCell ⟨b14, 0, none⟩ (.slice A3 (pre.length + 1) c3)) := y3.grows.set (p := ⟨b14, 0, none⟩) hl14 _
              have hfin : (pre ++ [j]) ++ rest2 = l := by
                have h1 := HPL.out
                rw [HRE.out, ← HJI.out] at h1
                simpa using h1
              have hfol3 : Fol (srchOf NN E (backO o)) (outL NN xs) tN (Go.Proofs.YtgplpgldhoelcaaGreat.tN E j) rest2 := by rw [HJI.out]; exact HN0.out.2.2.1
              have HF1 := hide hfin
              have HF2 := hide hfol3
              have HF3 := hide ho4
              clear ho4 hfin hfol3 hne14
              go_roundw
              case measure => simp [Go.RowKit.intOf]; omega
              case rel => exact ⟨Go.Proofs.YtgplpgldhoelcaaGreat.tN E j, pre ++ [j], rest2, A3, c3, HF1.out, ⟨htn, HTF.out⟩, HF2.out, rfl, by simp, ⟨_, g4⟩, rfl, p4, HF3.out⟩
            · rw [HN0.out.2.1 j (by omega) hfv] at hsame
              have hj1 : j + 1 ≤ i0 := by omega
              have htn : Go.Proofs.YtgplpgldhoelcaaGreat.tN E j < NN := (HIN.out.t j hjE).1
              clear hji hfv
              cases hc : cnt2 (srchOf NN E (backO o)) j with
              | false =>
                rw [hc] at CCJ
                clear hc hsame
                go_upto_region 22 with fail
                ((first | refine wp_region_gen (by kernel_rfl) (by kernel_rfl) ?_); (repeat' ((first | refine gLex_val0 rfl (by kernel_rfl) (fun K hK => ?_) | refine gLex_undef rfl rfl rfl (by kernel_rfl) (fun K hK => ?_) | (refine gLex_ask rfl rfl rfl ?_; first | (apply gAsk_yes; kernel_rfl; intro K hK) | ((first | apply gAsk_no1 | apply gAsk_no2); kernel_rfl; intro K hK) | (apply gAsk_part; kernel_rfl; all_goals (intro h K hK; (try simp only [Bool.not_true] at h); (try simp only [Bool.not_false] at h); (try simp only [decide_eq_true_eq] at h); (try simp only [decide_eq_false_iff_not] at h); try (exfalso; first | contradiction | omega))))) <;> (go_simp; (try (simp only [↓IntWalk.iteOmega]; try go_simp)); (try simp (disch := omega) only [IntWalk.i64_in]); (try simp (disch := omega) only [IntWalk.u64_in]); first | (refine hK _ ?_; clear hK K) | (apply Exists.intro; refine ⟨fun x => ?_, hK _ ?_⟩; (first | (go_at_call 152; exact CCJ.out _ GG)); clear hK K)))); all_goals ((apply gLex_end); intro y7))
                go_wp2_with fail
                go_roundw
                case measure => simp [Go.RowKit.intOf]; omega
                case rel => exact ⟨j + 1, hj1, rfl, by go_num, ⟨_, GG⟩, rfl, a14.grow (show Grows y2.now y7.now from GG), HO2.out.grows (show Grows y2.now y7.now from GG)⟩
              | true =>
                rw [hc] at CCJ hsame
                clear hc
                by_cases hlt : du < farV
                · have hne : ¬ xw + du = dv := fun e => by
                    rw [decide_eq_true hlt, decide_eq_true e] at hsame
                    cases hsame
                  unfold farV at hlt
                  have hb1 : decide ((du : Int) < 4611686018427387904) = true := decide_eq_true (by omega)
                  have hb2 : ((xw : Int) + (du : Int) == (dv : Int)) = false := beq_eq_false_iff_ne.2 (by omega)
                  clear hsame hne
                  go_upto_region 22 with fail
                  ((first | refine wp_region_gen (by kernel_rfl) (by kernel_rfl) ?_); (repeat' ((first | refine gLex_val0 rfl (by kernel_rfl) (fun K hK => ?_) | refine gLex_undef rfl rfl rfl (by kernel_rfl) (fun K hK => ?_) | (refine gLex_ask rfl rfl rfl ?_; first | (apply gAsk_yes; kernel_rfl; intro K hK) | ((first | apply gAsk_no1 | apply gAsk_no2); kernel_rfl; intro K hK) | (apply gAsk_part; kernel_rfl; all_goals (intro h K hK; (try simp only [Bool.not_true] at h); (try simp only [Bool.not_false] at h); (try simp only [decide_eq_true_eq] at h); (try simp only [decide_eq_false_iff_not] at h); try (exfalso; first | contradiction | omega))))) <;> (go_simp; (try (simp only [↓IntWalk.iteOmega]; try go_simp)); (try simp (disch := omega) only [IntWalk.i64_in]); (try simp (disch := omega) only [IntWalk.u64_in]); first | (refine hK _ ?_; clear hK K) | (apply Exists.intro; refine ⟨fun x => ?_, hK _ ?_⟩; (first | (go_at_call 152; exact CCJ.out _ GG)); clear hK K)))); all_goals ((apply gLex_end); intro y7))
                  clear hb1 hb2 hbf
                  go_wp2_with fail
                  go_roundw
                  case measure => simp [Go.RowKit.intOf]; omega
                  case rel => exact ⟨j + 1, hj1, rfl, by go_num, ⟨_, GG⟩, rfl, a14.grow (show Grows y2.now y7.now from GG), HO2.out.grows (show Grows y2.now y7.now from GG)⟩
                · unfold farV at hlt
                  have hb1 : decide ((du : Int) < 4611686018427387904) = false := decide_eq_false (by omega)
                  clear hsame hlt
                  go_upto_region 22 with fail
                  ((first | refine wp_region_gen (by kernel_rfl) (by kernel_rfl) ?_); (repeat' ((first | refine gLex_val0 rfl (by kernel_rfl) (fun K hK => ?_) | refine gLex_undef rfl rfl rfl (by kernel_rfl) (fun K hK => ?_) | (refine gLex_ask rfl rfl rfl ?_; first | (apply gAsk_yes; kernel_rfl; intro K hK) | ((first | apply gAsk_no1 | apply gAsk_no2); kernel_rfl; intro K hK) | (apply gAsk_part; kernel_rfl; all_goals (intro h K hK; (try simp only [Bool.not_true] at h); (try simp only [Bool.not_false] at h); (try simp only [decide_eq_true_eq] at h); (try simp only [decide_eq_false_iff_not] at h); try (exfalso; first | contradiction | omega))))) <;> (go_simp; (try (simp only [↓IntWalk.iteOmega]; try go_simp)); (try simp (disch := omega) only [IntWalk.i64_in]); (try simp (disch := omega) only [IntWalk.u64_in]); first | (refine hK _ ?_; clear hK K) | (apply Exists.intro; refine ⟨fun x => ?_, hK _ ?_⟩; (first | (go_at_call 152; exact CCJ.out _ GG)); clear hK K)))); all_goals ((apply gLex_end); intro y7))
                  go_wp2_with fail
                  go_roundw
                  case measure => simp [Go.RowKit.intOf]; omega
                  case rel => exact ⟨j + 1, hj1, rfl, by go_num, ⟨_, GG⟩, rfl, a14.grow (show Grows y2.now y7.now from GG), HO2.out.grows (show Grows y2.now y7.now from GG)⟩
          · have hji : j ≠ i0 := fun e => hfv (by rw [e]; exact HN0.out.2.2.2)
            have hbf : ((Go.Proofs.YtgplpgldhoelcaaGreat.fN E j : Int) == (v : Int)) = false := beq_eq_false_iff_ne.2 (by omega)
            have hj1 : j + 1 ≤ i0 := by omega
            clear hfv hji
            go_wp2_with fail
            ((first | refine wp_region_gen (by kernel_rfl) (by kernel_rfl) ?_); (repeat' ((first | refine gLex_val0 rfl (by kernel_rfl) (fun K hK => ?_) | refine gLex_undef rfl rfl rfl (by kernel_rfl) (fun K hK => ?_) | (refine gLex_ask rfl rfl rfl ?_; first | (apply gAsk_yes; kernel_rfl; intro K hK) | ((first | apply gAsk_no1 | apply gAsk_no2); kernel_rfl; intro K hK) | (apply gAsk_part; kernel_rfl; all_goals (intro h K hK; (try simp only [Bool.not_true] at h); (try simp only [Bool.not_false] at h); (try simp only [decide_eq_true_eq] at h); (try simp only [decide_eq_false_iff_not] at h); try (exfalso; first | contradiction | omega))))) <;> (go_simp; (try (simp only [↓IntWalk.iteOmega]; try go_simp)); (try simp (disch := omega) only [IntWalk.i64_in]); (try simp (disch := omega) only [IntWalk.u64_in]); refine hK _ ?_; clear hK K))); all_goals ((apply gLex_end); intro y7))
            go_wp2_with fail
            go_roundw
            case measure => simp [Go.RowKit.intOf]; omega
            case rel => exact ⟨j + 1, hj1, rfl, by go_num, ⟨_, GG⟩, rfl, a14.grow (show Grows y2.now y7.now from GG), HO2.out.grows (show Grows y2.now y7.now from GG)⟩
end Go.Proofs.YtgplpgldhoelcaaGreat

namespace Go.Proofs.YtgplpgldhoelcaaGreat
open Go Go.RowKit
set_option maxRecDepth 20000 in
set_option maxHeartbeats 2000000 in
theorem r8LessEq (A : Option Addr) (n c : Nat) (l : List Int) (B : Option Addr) (d : Nat) (w : World) (h : Rd w A 1 n (l.map (.int .i64))) (hn : n ≤ 1000000) (h' : Rd w B 1 n (l.map (.int .i64))) :
    Calls Tryz.prog 75 #[.slice A n c, .slice B n d] w fun e w' => e = .returned (.int .i64 0) ∧ Grows w w' := by
  have HL := hide (show l.length = n by simpa using h.len)
  have HR := hide h
  have HR2 := hide h'
  clear h h'
  go_enter Tryz.func75, Tryz.ntmps75
  go_wp2_with fail
  go_loopw [5] (fun i wr => ∃ k : Nat, k ≤ n ∧ i = .int .i64 (k : Int) ∧ (∃ x : Later w, wr = x.now)) (fun i _ => n - (intOf i).toNat)
  case atStart => exact ⟨0, by omega, by go_num, ⟨⟨w, Grows.refl w⟩, rfl⟩⟩
  case round =>
    obtain ⟨q, hq, rfl, ⟨x, rfl⟩⟩ := hrel
    by_cases hend : n ≤ q
    · go_wp2_with fail
      go_ret
      exact ⟨rfl, GG⟩
    · obtain ⟨b, off, rfl, hc⟩ := HR.out.ints (by omega)
      have hc1 := Holds.mk (hc q (by omega))
      obtain ⟨b2, off2, rfl, hc2⟩ := HR2.out.ints (by omega)
      have hc3 := Holds.mk (hc2 q (by omega))
      clear hc hc2
      have hd : decide (gi l q < gi l q) = false := decide_eq_false (Int.lt_irrefl _)
      generalize gi l q = z at *
      go_wp2_with fail
      ((first | refine wp_region_gen2 (by kernel_rfl) (by kernel_rfl) ?_ | refine wp_region_gen (by kernel_rfl) (by kernel_rfl) ?_); (repeat' ((first | refine gLex_val0 rfl (by kernel_rfl) (fun K hK => ?_) | refine gLex_undef rfl rfl rfl (by kernel_rfl) (fun K hK => ?_) | (refine gLex_ask rfl rfl rfl ?_; first | (apply gAsk_yes; kernel_rfl; intro K hK) | ((first | apply gAsk_no1 | apply gAsk_no2); kernel_rfl; intro K hK) | (apply gAsk_part; kernel_rfl; all_goals (intro h K hK; (try simp only [Bool.not_true] at h); (try simp only [Bool.not_false] at h); (try simp only [decide_eq_true_eq] at h); (try simp only [decide_eq_false_iff_not] at h); try (exfalso; first | contradiction | omega))))) <;> (go_simp; (try (simp only [↓IntWalk.iteOmega]; try go_simp)); (try simp (disch := omega) only [IntWalk.i64_in]); (try simp (disch := omega) only [IntWalk.u64_in]); refine hK _ ?_; clear hK K))); all_goals ((apply gLex_end); intro y))
      go_wp2_with fail
      ((first | refine wp_region_gen2 (by kernel_rfl) (by kernel_rfl) ?_ | refine wp_region_gen (by kernel_rfl) (by kernel_rfl) ?_); (repeat' ((first | refine gLex_val0 rfl (by kernel_rfl) (fun K hK => ?_) | refine gLex_undef rfl rfl rfl (by kernel_rfl) (fun K hK => ?_) | (refine gLex_ask rfl rfl rfl ?_; first | (apply gAsk_yes; kernel_rfl; intro K hK) | ((first | apply gAsk_no1 | apply gAsk_no2); kernel_rfl; intro K hK) | (apply gAsk_part; kernel_rfl; all_goals (intro h K hK; (try simp only [Bool.not_true] at h); (try simp only [Bool.not_false] at h); (try simp only [decide_eq_true_eq] at h); (try simp only [decide_eq_false_iff_not] at h); try (exfalso; first | contradiction | omega))))) <;> (go_simp; (try (simp only [↓IntWalk.iteOmega]; try go_simp)); (try simp (disch := omega) only [IntWalk.i64_in]); (try simp (disch := omega) only [IntWalk.u64_in]); refine hK _ ?_; clear hK K))); all_goals ((apply gLex_end); intro y2))
      go_wp2_with fail
      go_roundw
      case measure => simp [intOf]; omega
      case rel => exact ⟨q + 1, by omega, by go_num, ⟨⟨_, GG⟩, rfl⟩⟩
def rVal (A : Option Addr) (n c f : Nat) : Value := .agg #[.slice A n c, .int .u64 (f : Int)]
set_option maxHeartbeats 2000000 in
theorem r8CmpEq (A : Option Addr) (n c : Nat) (l : List Int) (B : Option Addr) (d f : Nat) (w : World) (h : Rd w A 1 n (l.map (.int .i64))) (hn : n ≤ 1000000) (h' : Rd w B 1 n (l.map (.int .i64))) :
    Calls Tryz.prog 24 #[rVal A n c f, rVal B n d f] w fun e w' => e = .returned (.int .i64 0) ∧ Grows w w' := by
  have C1 := hide (fun (W1 : World) (g : Grows w W1) => r8LessEq A n c l B d W1 (h.grows g) hn (h'.grows g))
  have hd : decide ((f : Int) < (f : Int)) = false := decide_eq_false (Int.lt_irrefl _)
  clear h h'
  unfold rVal
  go_enter Tryz.func24, Tryz.ntmps24
  go_wp2_with fail
  refine (C1.out _ GG).mono ?_; rintro e w' ⟨rfl, hg⟩; obtain ⟨x1, rfl⟩ := hg.later; clear hg
  go_wp2_with fail
  go_ret
  exact ⟨rfl, GG⟩
end Go.Proofs.YtgplpgldhoelcaaGreat

namespace Go.Proofs.YtgplpgldhoelcaaGreat
open Go Go.RowKit
theorem elemRoute : Elem 46 53 2 := by
  refine ⟨Tryz.underlying46, ?_, by omega⟩
  have h : (Tryz.prog.info? 53).map (fun i => (i.zero, i.size, i.bytes)) = some (some (.agg #[.slice none 0 0, .int .u64 0]), 2, 32) := by kernel_rfl
  obtain ⟨i, hi, hz, hs, hb⟩ := info_parts h
  exact ⟨i, _, 32, hi, hz, hs, hb, rfl, by omega⟩
section
variable {w : World} {e : TypeId} {ops : Array Oper} {rest : List Oper} {o : Oper} {a : Act} {Q : Exit → Act → World → Prop}
end
abbrev Rt := Option Addr × Nat × List Nat × Nat
def rtC (r : Rt) : List Value := [.slice r.1 r.2.2.1.length r.2.1, .int .u64 (r.2.2.2 : Int)]
structure RtsAt (w : World) (B : Nat) (A : Option Addr) (c : Nat) (rs : List Rt) (ps : List (List Nat × Nat)) : Prop where
  own : Own w B 53 2 A rs.length c (rs.flatMap rtC)
  rows : ∀ r, r ∈ rs → Own w 0 3 1 r.1 r.2.2.1.length r.2.1 (nv r.2.2.1)
  eqs : rs.map (fun r => (r.2.2.1, r.2.2.2)) = ps
theorem RtsAt.len {w : World} {B : Nat} {A : Option Addr} {c : Nat} {rs : List Rt} {ps : List (List Nat × Nat)} (h : RtsAt w B A c rs ps) : rs.length = ps.length := by rw [← h.eqs, List.length_map]
theorem RtsAt.nil (w : World) (B : Nat) : RtsAt w B none 0 [] [] := ⟨Own.nil _ _ _ _, fun r hr => (by cases hr), rfl⟩
theorem RtsAt.grows {w w' : World} {B : Nat} {A : Option Addr} {c : Nat} {rs : List Rt} {ps : List (List Nat × Nat)} (h : RtsAt w B A c rs ps) (hg : Grows w w') : RtsAt w' B A c rs ps := ⟨h.own.grows hg, fun r hr => (h.rows r hr).grows hg, h.eqs⟩
theorem RtsAt.app {w w' : World} {B : Nat} {A A' : Option Addr} {c c' : Nat} {rs : List Rt} {ps : List (List Nat × Nat)} (h : RtsAt w B A c rs ps) (r : Rt) (hr : Own w 0 3 1 r.1 r.2.2.1.length r.2.1 (nv r.2.2.1))
    (ho : Own w' B 53 2 A' (rs.length + 1) c' (rs.flatMap rtC ++ [.slice r.1 r.2.2.1.length r.2.1, .int .u64 (r.2.2.2 : Int)])) (hg : w.grownBy w' (Value.slice A rs.length c).ownBlock) : RtsAt w' B A' c' (rs ++ [r]) (ps ++ [(r.2.2.1, r.2.2.2)]) := by
  have key : ∀ q : Rt, Own w 0 3 1 q.1 q.2.2.1.length q.2.1 (nv q.2.2.1) → Own w' 0 3 1 q.1 q.2.2.1.length q.2.1 (nv q.2.2.1) := fun q hq =>
    hq.touch (S := fun k => (Value.slice A rs.length c).ownBlock = some k) ((Touch.refl _ w).grown hg (fun k hk => .inl hk)) (fun p hp e2 => by
      have hA := h.own
      cases A with
      | none => simp [Value.ownBlock] at e2
      | some a =>
        simp [Value.ownBlock] at e2
        have h1 := (hA.ty a rfl).2
        rw [e2] at h1
        exact absurd (h1.one (hq.ty p hp).2) (by decide))
  refine ⟨?_, fun q hq => ?_, by rw [List.map_append, h.eqs]; rfl⟩
  · rw [List.length_append, List.length_singleton, List.flatMap_append]
    exact ho
  · rcases List.mem_append.1 hq with h1 | h1
    · exact key q (h.rows q h1)
    · rw [List.mem_singleton.1 h1]; exact key r hr
def pthK (F : Nat → List Nat × Nat) (k : Nat) : List (List Nat × Nat) := (List.range k).map F
theorem pthK_succ (F : Nat → List Nat × Nat) (k : Nat) : pthK F (k + 1) = pthK F k ++ [F k] := by simp [pthK, List.range_succ]
end Go.Proofs.YtgplpgldhoelcaaGreat

