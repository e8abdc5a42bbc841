/- Contracts: the shortest way between two nodes; its first edge. -/
import Derived.Test.YtomednfddpggaaaGreatQBridgeRows16
import Derived.Test.YtomednfddpggaaaGreatQBridgeRows18
import Derived.Test.YtomednfddpggaaaGreatQBridgeRows13
/- Contracts: the shortest way between two nodes; its first edge. -/
namespace Go.Proofs.YtomednfddpggaaaGreat
open Go Go.RowKit
set_option maxHeartbeats 2000000 in
theorem caPlain (back : Bool) (A1 : Option Addr) (n1 c1 : Nat) (A2 : Option Addr) (n2 c2 : Nat) (Aw : Option Addr) (nw cw most : Nat) (w : World) : Calls Tryz.prog 89 #[oVal back (.slice A1 n1 c1) (.slice A2 n2 c2) Aw nw cw most] w fun e w' => e = .returned (oVal false (.slice A1 n1 c1) (.slice A2 n2 c2) Aw nw cw 0) ∧ Grows w w' := by
  unfold oVal
  go_enter Tryz.func89, Tryz.ntmps89
  go_wp2
  refine bodyPost_ret (v := .agg #[.bool false, .slice A1 n1 c1, .slice A2 n2 c2, .slice Aw nw cw, .int .u64 0]) (by simp (maxDischargeDepth := 6) [results, Tryz.results89, go_sem, *]) rfl ?_
  exact ⟨rfl, GG⟩
def cells5 (w : World) (b : Nat) (v0 v1 v2 v3 v4 : Value) : World := ((((w.setCell ⟨b, 0, none⟩ v0).setCell ⟨b, 1, none⟩ v1).setCell ⟨b, 2, none⟩ v2).setCell ⟨b, 3, none⟩ v3).setCell ⟨b, 4, none⟩ v4
section
variable {w w0 : World} {b g : Nat} {t : TypeId} {v0 v1 v2 v3 v4 u0 u1 u2 u3 u4 : Value} {cs : List Value}
theorem Arr.set5 (h : Arr w b t [u0, u1, u2, u3, u4]) : Arr (cells5 w b v0 v1 v2 v3 v4) b t [v0, v1, v2, v3, v4] := ((((h.set 0 v0).set 1 v1).set 2 v2).set 3 v3).set 4 v4
theorem Arr.other5 (h : Arr w g t cs) (hne : b ≠ g) : Arr (cells5 w b v0 v1 v2 v3 v4) g t cs := ((((h.other (p := ⟨b, 0, none⟩) hne v0).other (p := ⟨b, 1, none⟩) hne v1).other (p := ⟨b, 2, none⟩) hne v2).other (p := ⟨b, 3, none⟩) hne v3).other (p := ⟨b, 4, none⟩) hne v4
theorem Grows.set5 (h : Grows w0 w) (hb : w0.heap.size ≤ b) : Grows w0 (cells5 w b v0 v1 v2 v3 v4) := ((((h.set (p := ⟨b, 0, none⟩) hb v0).set (p := ⟨b, 1, none⟩) hb v1).set (p := ⟨b, 2, none⟩) hb v2).set (p := ⟨b, 3, none⟩) hb v3).set (p := ⟨b, 4, none⟩) hb v4
end
set_option maxRecDepth 40000 in
set_option maxHeartbeats 16000000 in
theorem caPath (N s t : Int) (A : Option Addr) (c : Nat) (E : List Edg) (o : DOpt) (An Ae Aw : Option Addr) (cn ce cw : Nat) (l : List Nat) (f : Nat) (r : Int) (w : World) (h : Rd w A 3 E.length (esCells E)) (h2 : Rd w An 1 o.nn.length (o.nn.map (.int .i64))) (h3 : Rd w Ae 1 o.ne.length (o.ne.map (.int .i64))) (h4 : Rd w Aw 1 o.W.length (wv o.W))
    (hn : E.length ≤ 1000000) (hn3 : o.W.length ≤ 1000000) (hp : IsPath E o N s t l f r) :
    Calls Tryz.prog 50 #[.agg #[.int .i64 N, .slice A E.length c], .int .i64 s, .int .i64 t, oVal o.back (.slice An o.nn.length cn) (.slice Ae o.ne.length ce) Aw o.W.length cw o.most] w fun e w' =>
      ∃ A' c', e = .returned (.tuple #[.agg #[.slice A' l.length c', .int .u64 (f : Int)], .int .i64 r]) ∧ Own w' w.heap.size 3 1 A' l.length c' (nv l) ∧ Grows w w' := by
  have C1 := hide (fun (W : World) => show Calls Tryz.prog 89 #[.agg #[.bool o.back, .slice An o.nn.length cn, .slice Ae o.ne.length ce, .slice Aw o.W.length cw, .int .u64 (o.most : Int)]] W fun e w' => e = .returned (.agg #[.bool false, .slice An o.nn.length cn, .slice Ae o.ne.length ce, .slice Aw o.W.length cw, .int .u64 0]) ∧ Grows W w' from caPlain o.back An o.nn.length cn Ae o.ne.length ce Aw o.W.length cw o.most W)
  have C2 := hide (fun (W : World) (g : Grows w W) => show Calls Tryz.prog 67 #[.agg #[.int .i64 N, .slice A E.length c], .int .i64 s, .agg #[.bool false, .slice An o.nn.length cn, .slice Ae o.ne.length ce, .slice Aw o.W.length cw, .int .u64 0]] W fun e w' => e = .returned (.int .i64 (dcF N s E o.W)) ∧ Grows W w' from djCheck N s A E.length c E false (.slice An o.nn.length cn) (.slice Ae o.ne.length ce) Aw o.W.length cw 0 o.W W (h.grows g) (h4.grows g) hn hn3)
  have C3 := hide (fun (W : World) => gNode N t (.slice A E.length c) W)
  unfold oVal
  generalize o.most = mo at *
  generalize o.back = back at *
  cases hp with
  | bad hd =>
    have hr2 : (dcF N s E o.W == 0) = false := beq_eq_false_iff_ne.2 hd
    clear h h2 h3 h4 hd
    generalize dcF N s E o.W = r at *
    go_enter Tryz.func50, Tryz.ntmps50
    go_wp2_with fail
    refine (C1.out _).mono ?_; rintro e W0 ⟨rfl, hg⟩
    have a4 : Arr W0 w.heap.size 24 [.int .i64 (N), .slice A E.length c] := Arr.grow ⟨by simp [heap_push, Array.getElem_push, Array.getElem?_push, eq_add2]⟩ hg
    have a7 : Arr W0 (w.heap.size + 1) 71 [.bool back, .slice An o.nn.length cn, .slice Ae o.ne.length ce, .slice Aw o.W.length cw, .int .u64 (mo : Int)] := Arr.grow ⟨by simp [heap_push, Array.getElem_push]⟩ hg
    have a8 : Arr W0 (w.heap.size + 1 + 1) 93 [.slice none 0 0, .int .u64 0] := Arr.grow ⟨by simp [heap_push, Array.getElem_push]⟩ hg
    have hgw : Grows w W0 := Grows.trans (by exact GG) hg
    obtain ⟨b4, e4⟩ : ∃ b, w.heap.size = b := ⟨_, rfl⟩
    have hb : w.heap.size ≤ b4 := by omega
    rw [e4] at a4 a7 a8 ⊢
    clear e4 hg C1
    have hb2 : b4 < b4 + 1 ∧ b4 + 1 < b4 + 1 + 1 := by omega
    generalize b4 + 1 + 1 = b8 at *
    generalize b4 + 1 = b7 at *
    obtain ⟨y, rfl⟩ := hgw.later
    clear hgw
    go_wp2_with fail
    have g5 : Grows w (cells5 y.now b7 (.bool false) (.slice An o.nn.length cn) (.slice Ae o.ne.length ce) (.slice Aw o.W.length cw) (.int .u64 0)) := Grows.set5 y.grows (by omega)
    refine (C2.out _ g5).mono ?_; rintro e W0 ⟨rfl, hg⟩
    replace g5 := g5.trans hg
    have c4 := (a4.other5 (b := b7) (by omega)).grow hg
    have c7 := (a7.set5).grow hg
    have c8 := (a8.other5 (b := b7) (by omega)).grow hg
    clear a4 a7 a8 hg
    obtain ⟨y1, rfl⟩ := g5.later
    clear g5
    go_wp2_with fail
    refine bodyPost_ret (v := .tuple #[.agg #[.slice none 0 0, .int .u64 0], .int .i64 (r)]) (by simp (maxDischargeDepth := 6) [results, Tryz.results50, go_sem, *]) rfl ?_
    exact ⟨none, 0, rfl, Own.nil _ _ _ _, GG⟩
  | noNode hd ht =>
    have hb : nodeB N t = false := decide_eq_false ht
    rw [hd] at C2
    rw [hb] at C3
    clear h h2 h3 h4 hd hb ht
    go_enter Tryz.func50, Tryz.ntmps50
    go_wp2_with fail
    refine (C1.out _).mono ?_; rintro e W0 ⟨rfl, hg⟩
    have a4 : Arr W0 w.heap.size 24 [.int .i64 (N), .slice A E.length c] := Arr.grow ⟨by simp [heap_push, Array.getElem_push, Array.getElem?_push, eq_add2]⟩ hg
    have a7 : Arr W0 (w.heap.size + 1) 71 [.bool back, .slice An o.nn.length cn, .slice Ae o.ne.length ce, .slice Aw o.W.length cw, .int .u64 (mo : Int)] := Arr.grow ⟨by simp [heap_push, Array.getElem_push]⟩ hg
    have a8 : Arr W0 (w.heap.size + 1 + 1) 93 [.slice none 0 0, .int .u64 0] := Arr.grow ⟨by simp [heap_push, Array.getElem_push]⟩ hg
    have hgw : Grows w W0 := Grows.trans (by exact GG) hg
    obtain ⟨b4, e4⟩ : ∃ b, w.heap.size = b := ⟨_, rfl⟩
    have hb : w.heap.size ≤ b4 := by omega
    rw [e4] at a4 a7 a8 ⊢
    clear e4 hg C1
    have hb2 : b4 < b4 + 1 ∧ b4 + 1 < b4 + 1 + 1 := by omega
    generalize b4 + 1 + 1 = b8 at *
    generalize b4 + 1 = b7 at *
    obtain ⟨y, rfl⟩ := hgw.later
    clear hgw
    go_wp2_with fail
    have g5 : Grows w (cells5 y.now b7 (.bool false) (.slice An o.nn.length cn) (.slice Ae o.ne.length ce) (.slice Aw o.W.length cw) (.int .u64 0)) := Grows.set5 y.grows (by omega)
    refine (C2.out _ g5).mono ?_; rintro e W0 ⟨rfl, hg⟩
    replace g5 := g5.trans hg
    have c4 := (a4.other5 (b := b7) (by omega)).grow hg
    have c7 := (a7.set5).grow hg
    have c8 := (a8.other5 (b := b7) (by omega)).grow hg
    clear a4 a7 a8 hg
    obtain ⟨y1, rfl⟩ := g5.later
    clear g5
    go_wp2_with fail
    refine (C3.out _).mono ?_; rintro e W0 ⟨rfl, hg⟩
    replace c4 := c4.grow hg
    replace c7 := c7.grow hg
    replace c8 := c8.grow hg
    obtain ⟨y2, rfl⟩ := (y1.grows.trans hg).later
    clear hg
    go_wp2_with fail
    refine bodyPost_ret (v := .tuple #[.agg #[.slice none 0 0, .int .u64 0], .int .i64 (7)]) (by simp (maxDischargeDepth := 6) [results, Tryz.results50, go_sem, *]) rfl ?_
    exact ⟨none, 0, rfl, Own.nil _ _ _ _, GG⟩
  | noPath NN sN tN xs hN hs ht hok hf =>
    subst hN hs ht
    have HR := hide (And.intro h (And.intro h2 (And.intro h3 h4)))
    have HOK := hide hok
    rw [hok.dcs] at C2
    rw [show nodeB (NN : Int) (tN : Int) = true from decide_eq_true ⟨by omega, by have := hok.ok.node; omega⟩] at C3
    have hsN := hok.node
    have C4 := hide (fun (W1 : World) (g : Grows w W1) => show Calls Tryz.prog 34 #[.agg #[.int .i64 (NN : Int), .slice A E.length c], .int .i64 (tN : Int), .agg #[.bool true, .slice An o.nn.length cn, .slice Ae o.ne.length ce, .slice Aw o.W.length cw, .int .u64 0]] W1 fun e w' =>
      ∃ go, e = .returned (.tuple #[.slice (some ⟨go, 0, none⟩) NN NN, .int .i64 0]) ∧ Row1 w' go 38 1 NN NN (wv (outL NN xs)) ∧ W1.heap.size ≤ go ∧ Grows W1 w' from
      djAll NN tN A c E (backO o) An Ae Aw cn ce cw xs W1 (h.grows g) (h2.grows g) (h3.grows g) (h4.grows g) hok.ok hok.dc hok.tr hok.lt)
    have HDL := hide (outL_len NN xs)
    clear h h2 h3 h4
    clear hok
    go_enter Tryz.func50, Tryz.ntmps50
    go_wp2_with fail
    refine (C1.out _).mono ?_; rintro e W0 ⟨rfl, hg⟩
    have a4 : Arr W0 w.heap.size 24 [.int .i64 ((NN : Int)), .slice A E.length c] := Arr.grow ⟨by simp [heap_push, Array.getElem_push, Array.getElem?_push, eq_add2]⟩ hg
    have a7 : Arr W0 (w.heap.size + 1) 71 [.bool back, .slice An o.nn.length cn, .slice Ae o.ne.length ce, .slice Aw o.W.length cw, .int .u64 (mo : Int)] := Arr.grow ⟨by simp [heap_push, Array.getElem_push]⟩ hg
    have a8 : Arr W0 (w.heap.size + 1 + 1) 93 [.slice none 0 0, .int .u64 0] := Arr.grow ⟨by simp [heap_push, Array.getElem_push]⟩ hg
    have hgw : Grows w W0 := Grows.trans (by exact GG) hg
    obtain ⟨b4, e4⟩ : ∃ b, w.heap.size = b := ⟨_, rfl⟩
    have hb : w.heap.size ≤ b4 := by omega
    rw [e4] at a4 a7 a8 ⊢
    clear e4 hg C1
    have hb2 : b4 < b4 + 1 ∧ b4 + 1 < b4 + 1 + 1 := by omega
    generalize b4 + 1 + 1 = b8 at *
    generalize b4 + 1 = b7 at *
    obtain ⟨y, rfl⟩ := hgw.later
    clear hgw
    go_wp2_with fail
    have g5 : Grows w (cells5 y.now b7 (.bool false) (.slice An o.nn.length cn) (.slice Ae o.ne.length ce) (.slice Aw o.W.length cw) (.int .u64 0)) := Grows.set5 y.grows (by omega)
    refine (C2.out _ g5).mono ?_; rintro e W0 ⟨rfl, hg⟩
    replace g5 := g5.trans hg
    have c4 := (a4.other5 (b := b7) (by omega)).grow hg
    have c7 := (a7.set5).grow hg
    have c8 := (a8.other5 (b := b7) (by omega)).grow hg
    clear a4 a7 a8 hg
    obtain ⟨y1, rfl⟩ := g5.later
    clear g5
    go_wp2_with fail
    refine (C3.out _).mono ?_; rintro e W0 ⟨rfl, hg⟩
    replace c4 := c4.grow hg
    replace c7 := c7.grow hg
    replace c8 := c8.grow hg
    obtain ⟨y2, rfl⟩ := (y1.grows.trans hg).later
    clear hg
    go_wp2_with fail
    refine (C4.out _ GG).mono ?_; rintro e W0 ⟨gf, rfl, hrow, hgf, hg⟩
    have kf : Mine W0 ⟨gf, sN, none⟩ (.int .u64 4611686018427387904) := by
      have := hrow.mine (j := sN) (wv_at (W := outL NN xs) (by rw [HDL.out]; exact hsN))
      rw [hf] at this
      exact this
    replace c4 := (c4.grow ((Grows.refl _).new _)).grow hg
    replace c7 := (c7.grow ((Grows.refl _).new _)).grow hg
    replace c8 := (c8.grow ((Grows.refl _).new _)).grow hg
    have g8 := (y2.grows.new _).trans hg
    clear hg
    obtain ⟨y3, rfl⟩ := g8.later
    clear g8
    clear hrow
    go_wp2_with fail
    refine bodyPost_ret (v := .tuple #[.agg #[.slice none 0 0, .int .u64 0], .int .i64 (9)]) (by simp (maxDischargeDepth := 6) [results, Tryz.results50, go_sem, *]) rfl ?_
    exact ⟨none, 0, rfl, Own.nil _ _ _ _, GG⟩
  | way NN sN tN xs l hN hs ht hok hf hnear hfol =>
    subst hN hs ht
    have HR := hide (And.intro h (And.intro h2 (And.intro h3 h4)))
    have HOK := hide hok
    rw [hok.dcs] at C2
    rw [show nodeB (NN : Int) (tN : Int) = true from decide_eq_true ⟨by omega, by have := hok.ok.node; omega⟩] at C3
    have hsN := hok.node
    have C4 := hide (fun (W1 : World) (g : Grows w W1) => show Calls Tryz.prog 34 #[.agg #[.int .i64 (NN : Int), .slice A E.length c], .int .i64 (tN : Int), .agg #[.bool true, .slice An o.nn.length cn, .slice Ae o.ne.length ce, .slice Aw o.W.length cw, .int .u64 0]] W1 fun e w' =>
      ∃ go, e = .returned (.tuple #[.slice (some ⟨go, 0, none⟩) NN NN, .int .i64 0]) ∧ Row1 w' go 38 1 NN NN (wv (outL NN xs)) ∧ W1.heap.size ≤ go ∧ Grows W1 w' from
      djAll NN tN A c E (backO o) An Ae Aw cn ce cw xs W1 (h.grows g) (h2.grows g) (h3.grows g) (h4.grows g) hok.ok hok.dc hok.tr hok.lt)
    have HDL := hide (outL_len NN xs)
    clear h h2 h3 h4
    have C5 := hide (fun (W1 : World) (g : Grows w W1) => adjNew NN A E.length c E W1 (HR.out.1.grows g) hn hok.ok.right)
    have HFOL := hide (And.intro hnear hfol)
    have hlt : gn (outL NN xs) sN < 4611686018427387904 := by unfold farV at hf; exact hf
    have hbd : decide ((4611686018427387904 : Int) ≤ (gn (outL NN xs) sN : Int)) = false := decide_eq_false (by omega)
    clear hok hf hnear hfol hlt
    go_enter Tryz.func50, Tryz.ntmps50
    go_wp2_with fail
    refine (C1.out _).mono ?_; rintro e W0 ⟨rfl, hg⟩
    have a4 : Arr W0 w.heap.size 24 [.int .i64 ((NN : Int)), .slice A E.length c] := Arr.grow ⟨by simp [heap_push, Array.getElem_push, Array.getElem?_push, eq_add2]⟩ hg
    have a7 : Arr W0 (w.heap.size + 1) 71 [.bool back, .slice An o.nn.length cn, .slice Ae o.ne.length ce, .slice Aw o.W.length cw, .int .u64 (mo : Int)] := Arr.grow ⟨by simp [heap_push, Array.getElem_push]⟩ hg
    have a8 : Arr W0 (w.heap.size + 1 + 1) 93 [.slice none 0 0, .int .u64 0] := Arr.grow ⟨by simp [heap_push, Array.getElem_push]⟩ hg
    have hgw : Grows w W0 := Grows.trans (by exact GG) hg
    obtain ⟨b4, e4⟩ : ∃ b, w.heap.size = b := ⟨_, rfl⟩
    have hb : w.heap.size ≤ b4 := by omega
    rw [e4] at a4 a7 a8 ⊢
    clear e4 hg C1
    have hb2 : b4 < b4 + 1 ∧ b4 + 1 < b4 + 1 + 1 := by omega
    generalize b4 + 1 + 1 = b8 at *
    generalize b4 + 1 = b7 at *
    obtain ⟨y, rfl⟩ := hgw.later
    clear hgw
    go_wp2_with fail
    have g5 : Grows w (cells5 y.now b7 (.bool false) (.slice An o.nn.length cn) (.slice Ae o.ne.length ce) (.slice Aw o.W.length cw) (.int .u64 0)) := Grows.set5 y.grows (by omega)
    refine (C2.out _ g5).mono ?_; rintro e W0 ⟨rfl, hg⟩
    replace g5 := g5.trans hg
    have c4 := (a4.other5 (b := b7) (by omega)).grow hg
    have c7 := (a7.set5).grow hg
    have c8 := (a8.other5 (b := b7) (by omega)).grow hg
    clear a4 a7 a8 hg
    obtain ⟨y1, rfl⟩ := g5.later
    clear g5
    go_wp2_with fail
    refine (C3.out _).mono ?_; rintro e W0 ⟨rfl, hg⟩
    replace c4 := c4.grow hg
    replace c7 := c7.grow hg
    replace c8 := c8.grow hg
    obtain ⟨y2, rfl⟩ := (y1.grows.trans hg).later
    clear hg
    go_wp2_with fail
    refine (C4.out _ GG).mono ?_; rintro e W0 ⟨gf, rfl, hrow, hgf, hg⟩
    have kf : Mine W0 ⟨gf, sN, none⟩ (.int .u64 (gn (outL NN xs) sN : Int)) := hrow.mine (j := sN) (wv_at (W := outL NN xs) (by rw [HDL.out]; exact hsN))
    have HROW := hide hrow
    replace c4 := (c4.grow ((Grows.refl _).new _)).grow hg
    replace c7 := (c7.grow ((Grows.refl _).new _)).grow hg
    replace c8 := (c8.grow ((Grows.refl _).new _)).grow hg
    have g8 := (y2.grows.new _).trans hg
    clear hg
    obtain ⟨y3, rfl⟩ := g8.later
    clear g8
    clear hrow
    go_wp2_with fail
    refine (C5.out _ GG).mono ?_; rintro e W0 ⟨ba, rfl, hA, hg⟩
    have HAD := hide hA
    have HROW := hide (HROW.out.grow hg)
    replace c4 := c4.grow hg
    replace c7 := c7.grow hg
    replace c8 := c8.grow hg
    have g9 := y3.grows.trans hg
    have hszA := hg.size
    clear kf hA hg
    obtain ⟨y4, rfl⟩ := g9.later
    clear g9
    have hgy := y4.grows.size
    have C7 := hide (fun (A9 : Option Addr) (c9 : Nat) (W1 : World) (g1 : Grows y4.now W1) (hr : Rd W1 A9 1 E.length (wv (wtF NN E o.W))) => show Calls Tryz.prog 90 #[.pointer (some ⟨ba, 0, none⟩), .int .i64 (sN : Int), .slice (some ⟨gf, 0, none⟩) NN NN, .slice A9 E.length c9, .agg #[.bool false, .slice An o.nn.length cn, .slice Ae o.ne.length ce, .slice Aw o.W.length cw, .int .u64 0]] W1 fun e w' =>
        ∃ A' c', e = .returned (.agg #[.slice A' l.length c', .int .u64 (gn (outL NN xs) sN : Int)]) ∧ Own w' W1.heap.size 3 1 A' l.length c' (nv l) ∧ Grows W1 w' from
      caFollow _ NN sN tN ba E (backO o) (outL NN xs) l _ A9 Ae NN c9 ce _ _ _ _ W1 (HAD.out.touch (g1.touch (fun _ => False)) (fun _ _ => id)) (fun k hk => Nat.lt_of_lt_of_le hk.2 g1.size) HOK.out.ok.srch.ends hsN hn (by have := HOK.out.bound.2.1; omega) HDL.out HOK.out.ok.wlen (fun i hi => (HOK.out.wb i hi).2) HOK.out.ok.nes
        (HROW.out.rd.grows g1) hr (HR.out.2.2.1.grows (y4.grows.trans g1)) ⟨⟨rfl, rfl⟩, rfl, rfl⟩ HFOL.out.1 HFOL.out.2)
    have C6 := hide (fun (W1 : World) (g1 : Grows w W1) => show Calls Tryz.prog 91 #[.agg #[.int .i64 (NN : Int), .slice A E.length c], .agg #[.bool false, .slice An o.nn.length cn, .slice Ae o.ne.length ce, .slice Aw o.W.length cw, .int .u64 0]] W1 fun e w' => ∃ u, e = .returned u ∧ Grows W1 w' ∧ RowP E.length (wv (wtF NN E o.W)) u w' from
      (djWeights NN A E.length c E false (.slice An o.nn.length cn) (.slice Ae o.ne.length ce) Aw o.W.length cw 0 o.W W1 (HR.out.1.grows g1) (HR.out.2.2.2.grows g1) hn hn3).mono (fun e w' h => by
        obtain ⟨A9, c9, rfl, ho, hg⟩ := h
        have e9 : (wtF NN E o.W).length = E.length := HOK.out.ok.wlen
        have ho := ho.rd
        rw [e9] at ho ⊢
        exact ⟨_, rfl, hg, A9, c9, rfl, ho⟩))
    have HW := hide (show w.heap.size ≤ y4.now.heap.size from y4.grows.size)
    clear HAD HROW HOK HFOL HDL hbd
    go_upto_region 13 with fail
    (refine wp_region_tail1 7 (by kernel_rfl) (by kernel_rfl) ?_; simp only [List.take_succ_cons, List.take_zero, List.drop_succ_cons, List.drop_zero]; (repeat' (first | (refine gLex_val0 rfl (by kernel_rfl) (fun K hK => ?_); (go_simp; (try (simp only [↓IntWalk.iteOmega]; try go_simp)); (try simp (disch := omega) only [IntWalk.i64_in]); (try simp (disch := omega) only [IntWalk.u64_in]); first | (refine hK _ ?_; clear hK K) | (apply Exists.intro; refine ⟨fun x => ?_, hK _ ?_⟩; (first | fail); clear hK K))) | (refine gLex_undef rfl rfl rfl (by kernel_rfl) (fun K hK => ?_); go_simp; refine hK _ ?_; clear hK K) | (refine gLex_ask rfl rfl rfl ?_; first | (apply gAsk_yes; kernel_rfl; intro K hK; (go_simp; (try (simp only [↓IntWalk.iteOmega]; try go_simp)); (try simp (disch := omega) only [IntWalk.i64_in]); (try simp (disch := omega) only [IntWalk.u64_in]); first | (refine hK _ ?_; clear hK K) | (apply Exists.intro; refine ⟨fun x => ?_, hK _ ?_⟩; (first | fail); clear hK K))) | ((first | apply gAsk_no1 | apply gAsk_no2); kernel_rfl; intro K hK; simp [go_sem]; refine hK _ ?_; clear hK K)))))
    refine gLex_propW (by kernel_rfl) (by kernel_rfl) rfl (by simp) (RowP E.length (wv (wtF NN E o.W))) (RowP.lasts _ _) (fun x => by go_simp; exact C6.out _ GG) ?_
    (repeat' (first | (refine gLex_val0 rfl (by kernel_rfl) (fun K hK => ?_); (go_simp; (try (simp only [↓IntWalk.iteOmega]; try go_simp)); (try simp (disch := omega) only [IntWalk.i64_in]); (try simp (disch := omega) only [IntWalk.u64_in]); first | (refine hK _ ?_; clear hK K) | (apply Exists.intro; refine ⟨fun x => ?_, hK _ ?_⟩; (first | fail); clear hK K))) | (refine gLex_undef rfl rfl rfl (by kernel_rfl) (fun K hK => ?_); go_simp; refine hK _ ?_; clear hK K) | (refine gLex_ask rfl rfl rfl ?_; first | (apply gAsk_yes; kernel_rfl; intro K hK; (go_simp; (try (simp only [↓IntWalk.iteOmega]; try go_simp)); (try simp (disch := omega) only [IntWalk.i64_in]); (try simp (disch := omega) only [IntWalk.u64_in]); first | (refine hK _ ?_; clear hK K) | (apply Exists.intro; refine ⟨fun x => ?_, hK _ ?_⟩; (first | fail); clear hK K))) | ((first | apply gAsk_no1 | apply gAsk_no2); kernel_rfl; intro K hK; simp [go_sem]; refine hK _ ?_; clear hK K))))
    refine gLex_endT1 (by simp) (fun x v hv => ?_)
    obtain ⟨A9, c9, rfl, hr⟩ := hv
    have C8 := hide (C7.out A9 c9 x.now (show Grows y4.now x.now from GG) hr)
    clear hr C7 C6
    simp only [Act.put, List.setIfInBounds_toArray, List.set_cons_zero, List.set_cons_succ]
    go_wp2_with fail
    refine (C8.out).mono ?_; rintro e W0 ⟨A', c', rfl, ho, hg⟩
    have gx : Grows y4.now x.now := GG
    have c8' := c8.grow (gx.trans hg)
    have hb8 := c8.ty.lt
    have hgx := gx.size
    have hWo := HW.out
    have HO := hide ho
    have g9 := (y4.grows.trans gx).trans hg
    clear c4 c7 c8 gx hg ho C8
    obtain ⟨y5, rfl⟩ := g9.later
    clear g9
    have hbw : w.heap.size ≤ b8 := by omega
    have ho2 := (HO.out.low (q := ⟨b8, 0, none⟩) (by show b8 < _; omega) (.slice A' l.length c')).low (q := ⟨b8, 1, none⟩) (by show b8 < _; omega) (.int .u64 (gn (outL NN xs) sN : Int))
    have HO2 := hide (ho2.base (show w.heap.size ≤ x.now.heap.size by omega))
    have g10 : Grows w ((y5.now.setCell ⟨b8, 0, none⟩ (.slice A' l.length c')).setCell ⟨b8, 1, none⟩ (.int .u64 (gn (outL NN xs) sN : Int))) := (y5.grows.set (p := ⟨b8, 0, none⟩) hbw _).set (p := ⟨b8, 1, none⟩) hbw _
    clear ho2 HO
    go_wp2_with fail
    refine bodyPost_ret (v := .tuple #[.agg #[.slice A' l.length c', .int .u64 (gn (outL NN xs) sN : Int)], .int .i64 0]) (by simp (maxDischargeDepth := 6) [results, Tryz.results50, go_sem, *]) rfl ?_
    exact ⟨A', c', rfl, HO2.out, g10⟩
def firstP (l : List Nat) : Int := match l with | [] => -1 | i :: _ => (i : Int)
def whyP (l : List Nat) (r : Int) : Int := if r ≠ 0 then r else if l = [] then 9 else 0
theorem IsPath.noEdge {E : List Edg} {o : DOpt} {N s t r : Int} {l : List Nat} {f : Nat} (h : IsPath E o N s t l f r) (hr : r ≠ 0) : l = [] := by
  cases h with
  | bad => rfl
  | noNode => rfl
  | noPath => rfl
  | way => exact absurd rfl hr
end Go.Proofs.YtomednfddpggaaaGreat
