/- Contracts: why no Dag is made, by the document's answer. -/
import Derived.Test.YtomednfddpggaaaGreatQDagLooks16
import Derived.Test.YtomednfddpggaaaGreatQDagLooks20
import Derived.Test.YtomednfddpggaaaGreatQDagLooks23
import Derived.Test.YtomednfddpggaaaGreatQDagLooks01
import Derived.Test.YtomednfddpggaaaGreatQDagLooks07
/- Contracts: why no Dag is made, by the document's answer. -/
namespace Go.Proofs.YtomednfddpggaaaGreat
open Go Go.RowKit
attribute [local go_sem] Oper.semAt_some
def r16Z : Value := .agg #[.int .i64 0, .slice none 0 0, .int .i64 0, .int .i64 0, .slice none 0 0, .slice none 0 0]
def zero6 (x : World) (b : Nat) : World := ((((((x.setCell ⟨b, 0, none⟩ (.int .i64 0)).setCell ⟨b, 1, none⟩ (.slice none 0 0)).setCell ⟨b, 2, none⟩ (.int .i64 0)).setCell ⟨b, 3, none⟩ (.int .i64 0)).setCell ⟨b, 4, none⟩ (.slice none 0 0)).setCell ⟨b, 5, none⟩ (.slice none 0 0))
theorem zero6_is {w x : World} {b : Nat} {v0 v1 v2 v3 v4 v5 : Value} (a : Arr x b 33 [v0, v1, v2, v3, v4, v5]) (hg : Grows w x) (hb : w.heap.size ≤ b) : Arr (zero6 x b) b 33 [.int .i64 0, .slice none 0 0, .int .i64 0, .int .i64 0, .slice none 0 0, .slice none 0 0] ∧ Grows w (zero6 x b) :=
  ⟨((((((a.set 0 _).set 1 _).set 2 _).set 3 _).set 4 _).set 5 _), ((((((hg.set (p := ⟨b, 0, none⟩) hb _).set (p := ⟨b, 1, none⟩) hb _).set (p := ⟨b, 2, none⟩) hb _).set (p := ⟨b, 3, none⟩) hb _).set (p := ⟨b, 4, none⟩) hb _).set (p := ⟨b, 5, none⟩) hb _)⟩
set_option maxRecDepth 20000 in
set_option maxHeartbeats 4000000 in
theorem r16NewBad (N s t : Int) (A : Option Addr) (n c : Nat) (E : List Edg) (w : World) (h : Rd w A 3 n (esCells E)) (hn : n ≤ 1000000) (hr : rightF N E ≠ 0) :
    Calls Tryz.prog 9 #[.agg #[.int .i64 N, .slice A n c], .int .i64 s, .int .i64 t] w fun e w' => e = .returned (.tuple #[r16Z, .int .i64 1]) ∧ Grows w w' := by
  have C0 := hide (fun (W : World) (g : Grows w W) => r5Right N A n c E W (h.grows g) hn)
  have hb : (rightF N E != 0) = true := bne_iff_ne.2 hr
  clear h hr
  have HA := hide (show Arr ((w.alloc (.cells #[.int .i64 N, .slice A n c] 24)).alloc (.cells #[.int .i64 0, .slice none 0 0, .int .i64 0, .int .i64 0, .slice none 0 0, .slice none 0 0] 33)) (w.heap.size + 1) 33 [.int .i64 0, .slice none 0 0, .int .i64 0, .int .i64 0, .slice none 0 0, .slice none 0 0] from by
    have := Arr.make (w.alloc (.cells #[.int .i64 N, .slice A n c] 24)) [.int .i64 0, .slice none 0 0, .int .i64 0, .int .i64 0, .slice none 0 0, .slice none 0 0] 33
    simpa using this)
  unfold r16Z
  generalize rightF N E = r at *
  go_enter Tryz.func9, Tryz.ntmps9
  go_wp2_with (go_at_call 36; refine (C0.out _ GG).mono ?_; rintro e w' ⟨rfl, hg⟩; obtain ⟨x0, rfl⟩ := hg.later; clear hg)
  obtain ⟨aZ, hgZ⟩ := zero6_is (w := w) (HA.out.grow x0.grows) (show Grows w x0.now from GG) (by omega)
  unfold zero6 at aZ hgZ
  have z0 := aZ.mine 0 rfl
  have z1 := aZ.mine 1 rfl
  have z2 := aZ.mine 2 rfl
  have z3 := aZ.mine 3 rfl
  have z4 := aZ.mine 4 rfl
  have z5 := aZ.mine 5 rfl
  clear aZ HA C0
  generalize World.setCell _ _ _ = W9 at *
  generalize w.heap.size + 1 = b6 at *
  refine bodyPost_ret (v := .tuple #[.agg #[.int .i64 0, .slice none 0 0, .int .i64 0, .int .i64 0, .slice none 0 0, .slice none 0 0], .int .i64 1]) (by simp (maxDischargeDepth := 8) [results, Tryz.results9, go_sem, *]) rfl ⟨rfl, hgZ⟩
set_option maxRecDepth 20000 in
set_option maxHeartbeats 8000000 in
theorem r16NewNode (N s t : Int) (A : Option Addr) (n c : Nat) (E : List Edg) (w : World) (h : Rd w A 3 n (esCells E)) (hn : n ≤ 1000000) (hr : rightF N E = 0) (hno : (nodeB N s && nodeB N t) = false) :
    Calls Tryz.prog 9 #[.agg #[.int .i64 N, .slice A n c], .int .i64 s, .int .i64 t] w fun e w' => e = .returned (.tuple #[r16Z, .int .i64 7]) ∧ Grows w w' := by
  have C0 := hide (fun (W : World) (g : Grows w W) => by have := r5Right N A n c E W (h.grows g) hn; rw [hr] at this; exact this)
  have HA := hide (show Arr ((w.alloc (.cells #[.int .i64 N, .slice A n c] 24)).alloc (.cells #[.int .i64 0, .slice none 0 0, .int .i64 0, .int .i64 0, .slice none 0 0, .slice none 0 0] 33)) (w.heap.size + 1) 33 [.int .i64 0, .slice none 0 0, .int .i64 0, .int .i64 0, .slice none 0 0, .slice none 0 0] from by
    have := Arr.make (w.alloc (.cells #[.int .i64 N, .slice A n c] 24)) [.int .i64 0, .slice none 0 0, .int .i64 0, .int .i64 0, .slice none 0 0, .slice none 0 0] 33
    simpa using this)
  unfold r16Z
  have hno2 : ¬ ((0 ≤ s ∧ s < N) ∧ (0 ≤ t ∧ t < N)) := fun hh => by
    have : (nodeB N s && nodeB N t) = true := by simp [nodeB]; omega
    rw [this] at hno
    cases hno
  clear h hr hno
  by_cases h1 : s < 0
  · clear hno2
    go_enter Tryz.func9, Tryz.ntmps9
    go_wp2_with (go_at_call 36; refine (C0.out _ GG).mono ?_; rintro e w' ⟨rfl, hg⟩; obtain ⟨x0, rfl⟩ := hg.later; clear hg)
    obtain ⟨aZ, hgZ⟩ := zero6_is (w := w) (HA.out.grow x0.grows) (show Grows w x0.now from GG) (by omega)
    unfold zero6 at aZ hgZ
    have z0 := aZ.mine 0 rfl
    have z1 := aZ.mine 1 rfl
    have z2 := aZ.mine 2 rfl
    have z3 := aZ.mine 3 rfl
    have z4 := aZ.mine 4 rfl
    have z5 := aZ.mine 5 rfl
    clear aZ HA C0
    generalize World.setCell _ _ _ = W9 at *
    generalize w.heap.size + 1 = b6 at *
    refine bodyPost_ret (v := .tuple #[.agg #[.int .i64 0, .slice none 0 0, .int .i64 0, .int .i64 0, .slice none 0 0, .slice none 0 0], .int .i64 7]) (by simp (maxDischargeDepth := 8) [results, Tryz.results9, go_sem, *]) rfl ⟨rfl, hgZ⟩
  · by_cases h2 : N ≤ s
    · clear hno2
      go_enter Tryz.func9, Tryz.ntmps9
      go_wp2_with (go_at_call 36; refine (C0.out _ GG).mono ?_; rintro e w' ⟨rfl, hg⟩; obtain ⟨x0, rfl⟩ := hg.later; clear hg)
      obtain ⟨aZ, hgZ⟩ := zero6_is (w := w) (HA.out.grow x0.grows) (show Grows w x0.now from GG) (by omega)
      unfold zero6 at aZ hgZ
      have z0 := aZ.mine 0 rfl
      have z1 := aZ.mine 1 rfl
      have z2 := aZ.mine 2 rfl
      have z3 := aZ.mine 3 rfl
      have z4 := aZ.mine 4 rfl
      have z5 := aZ.mine 5 rfl
      clear aZ HA C0
      generalize World.setCell _ _ _ = W9 at *
      generalize w.heap.size + 1 = b6 at *
      refine bodyPost_ret (v := .tuple #[.agg #[.int .i64 0, .slice none 0 0, .int .i64 0, .int .i64 0, .slice none 0 0, .slice none 0 0], .int .i64 7]) (by simp (maxDischargeDepth := 8) [results, Tryz.results9, go_sem, *]) rfl ⟨rfl, hgZ⟩
    · by_cases h3 : t < 0
      · clear hno2
        go_enter Tryz.func9, Tryz.ntmps9
        go_wp2_with (go_at_call 36; refine (C0.out _ GG).mono ?_; rintro e w' ⟨rfl, hg⟩; obtain ⟨x0, rfl⟩ := hg.later; clear hg)
        obtain ⟨aZ, hgZ⟩ := zero6_is (w := w) (HA.out.grow x0.grows) (show Grows w x0.now from GG) (by omega)
        unfold zero6 at aZ hgZ
        have z0 := aZ.mine 0 rfl
        have z1 := aZ.mine 1 rfl
        have z2 := aZ.mine 2 rfl
        have z3 := aZ.mine 3 rfl
        have z4 := aZ.mine 4 rfl
        have z5 := aZ.mine 5 rfl
        clear aZ HA C0
        generalize World.setCell _ _ _ = W9 at *
        generalize w.heap.size + 1 = b6 at *
        refine bodyPost_ret (v := .tuple #[.agg #[.int .i64 0, .slice none 0 0, .int .i64 0, .int .i64 0, .slice none 0 0, .slice none 0 0], .int .i64 7]) (by simp (maxDischargeDepth := 8) [results, Tryz.results9, go_sem, *]) rfl ⟨rfl, hgZ⟩
      · have h4 : N ≤ t := by omega
        clear hno2
        go_enter Tryz.func9, Tryz.ntmps9
        go_wp2_with (go_at_call 36; refine (C0.out _ GG).mono ?_; rintro e w' ⟨rfl, hg⟩; obtain ⟨x0, rfl⟩ := hg.later; clear hg)
        obtain ⟨aZ, hgZ⟩ := zero6_is (w := w) (HA.out.grow x0.grows) (show Grows w x0.now from GG) (by omega)
        unfold zero6 at aZ hgZ
        have z0 := aZ.mine 0 rfl
        have z1 := aZ.mine 1 rfl
        have z2 := aZ.mine 2 rfl
        have z3 := aZ.mine 3 rfl
        have z4 := aZ.mine 4 rfl
        have z5 := aZ.mine 5 rfl
        clear aZ HA C0
        generalize World.setCell _ _ _ = W9 at *
        generalize w.heap.size + 1 = b6 at *
        refine bodyPost_ret (v := .tuple #[.agg #[.int .i64 0, .slice none 0 0, .int .i64 0, .int .i64 0, .slice none 0 0, .slice none 0 0], .int .i64 7]) (by simp (maxDischargeDepth := 8) [results, Tryz.results9, go_sem, *]) rfl ⟨rfl, hgZ⟩
end Go.Proofs.YtomednfddpggaaaGreat

/- Contract: the document's answer, its numbers. -/
namespace Go.Proofs.YtomednfddpggaaaGreat
open Go Go.RowKit
attribute [local go_sem] Oper.semAt_some
theorem r14AllB (N t : Nat) (A : Option Addr) (c : Nat) (E : List Edg) (w : World) (h : Rd w A 3 E.length (esCells E)) (hr : rightF N E = 0) (ht : t < N) :
    Calls Tryz.prog 37 #[.agg #[.int .i64 (N : Int), .slice A E.length c], .int .i64 (t : Int), .agg #[.bool true, .slice none 0 0, .slice none 0 0, .slice none 0 0, .int .u64 0]] w fun e w' => ∃ gd, e = .returned (.slice (some ⟨gd, 0, none⟩) N N) ∧ Row1 w' gd 38 1 N N (wv (BkF N E t)) ∧ Grows w w' := by
  have h0 : Rd w none 1 0 [] := ⟨by simp, fun h => absurd h (by simp)⟩
  have hw0 : Rd w none 1 0 (wv []) := ⟨by simp [wv], fun h => absurd h (by simp)⟩
  exact r14All N t A c E bkO none none none 0 0 0 w h h0 h0 hw0 (bk_ok hr ht) (fun i hi => (noO_w hr i hi).2)
theorem row_neT {w : World} {g b n : Nat} {xs cs : List Value} (h : Row1 w g 38 1 n n xs) (a : Arr w b 33 cs) : ∀ p, some (⟨g, 0, none⟩ : Addr) = some p → p.block ≠ b := by
  intro p hp e
  injection hp with hp
  subst hp
  have e' : g = b := e
  subst e'
  exact absurd (h.ty.one a.ty) (by decide)
theorem Rd.putB {w : World} {A : Option Addr} {n b : Nat} {xs : List Value} (h : Rd w A 1 n xs) (hne : ∀ p, A = some p → p.block ≠ b) {w' : World} (ht : Touch (fun k => k = b) w w') : Rd w' A 1 n xs := h.touch ht (fun p hp => hne p hp)
def st6 (x : World) (b : Nat) (v0 v1 v2 v3 v4 v5 : Value) : World := ((((((x.setCell ⟨b, 0, none⟩ v0).setCell ⟨b, 1, none⟩ v1).setCell ⟨b, 2, none⟩ v2).setCell ⟨b, 3, none⟩ v3).setCell ⟨b, 4, none⟩ v4).setCell ⟨b, 5, none⟩ v5)
theorem st6_touch (x : World) (b : Nat) (v0 v1 v2 v3 v4 v5 : Value) : Touch (fun k => k = b) x (st6 x b v0 v1 v2 v3 v4 v5) :=
  ((((((Touch.refl (fun k => k = b) x).set (p := ⟨b, 0, none⟩) (.inl rfl) _).set (p := ⟨b, 1, none⟩) (.inl rfl) _).set (p := ⟨b, 2, none⟩) (.inl rfl) _).set (p := ⟨b, 3, none⟩) (.inl rfl) _).set (p := ⟨b, 4, none⟩) (.inl rfl) _).set (p := ⟨b, 5, none⟩) (.inl rfl) _
theorem st6_is {x : World} {b : Nat} {t : TypeId} {u0 u1 u2 u3 u4 u5 : Value} (a : Arr x b t [u0, u1, u2, u3, u4, u5]) (v0 v1 v2 v3 v4 v5 : Value) : Arr (st6 x b v0 v1 v2 v3 v4 v5) b t [v0, v1, v2, v3, v4, v5] :=
  ((((((a.set 0 _).set 1 _).set 2 _).set 3 _).set 4 _).set 5 _)
set_option maxRecDepth 40000 in
set_option maxHeartbeats 8000000 in
theorem r16New (N s t : Nat) (A : Option Addr) (c0 : Nat) (E : List Edg) (w : World) (h : Rd w A 3 E.length (esCells E)) (hr : rightF N E = 0) (hs : s < N) (ht : t < N) :
    Calls Tryz.prog 9 #[.agg #[.int .i64 (N : Int), .slice A E.length c0], .int .i64 (s : Int), .int .i64 (t : Int)] w fun e w' =>
      ((gn (DsF N E s) t < farV ∧ ∃ g1 g2, e = .returned (.tuple #[r16V N s t A E.length c0 (some ⟨g1, 0, none⟩) N (some ⟨g2, 0, none⟩) N, .int .i64 0]) ∧ Rd w' (some ⟨g1, 0, none⟩) 1 N (wv (DsF N E s)) ∧ Rd w' (some ⟨g2, 0, none⟩) 1 N (wv (BkF N E t))) ∨ (¬ gn (DsF N E s) t < farV ∧ e = .returned (.tuple #[r16Z, .int .i64 9]))) ∧ Grows w w' := by
  have C0 := hide (fun (W : World) (g : Grows w W) => by have := r5Right N A E.length c0 E W (h.grows g) (by have := (right_in hr).2.2.1; omega); rw [hr] at this; exact this)
  have C4 := hide (fun (W : World) (g : Grows w W) => r14AllR N s A c0 E W (h.grows g) hr hs)
  have C5 := hide (fun (W : World) (g : Grows w W) => r14AllB N t A c0 E W (h.grows g) hr ht)
  have hTl : (DsF N E s).length = N := by unfold DsF refL; split <;> simp [cutL, rndK_len, dBeg, srchOf]
  have HR := hide (show Arr ((w.alloc (.cells #[.int .i64 (N : Int), .slice A E.length c0] 24)).alloc (.cells #[.int .i64 0, .slice none 0 0, .int .i64 0, .int .i64 0, .slice none 0 0, .slice none 0 0] 33)) (w.heap.size + 1) 33 [.int .i64 0, .slice none 0 0, .int .i64 0, .int .i64 0, .slice none 0 0, .slice none 0 0] from by
    have := Arr.make (w.alloc (.cells #[.int .i64 (N : Int), .slice A E.length c0] 24)) [.int .i64 0, .slice none 0 0, .int .i64 0, .int .i64 0, .slice none 0 0, .slice none 0 0] 33
    simpa using this)
  unfold r16V r16Z
  clear h hr
  generalize DsF N E s = T at *
  generalize BkF N E t = F at *
  have hsN : (s : Int) < (N : Int) := by omega
  have htN : (t : Int) < (N : Int) := by omega
  have hs0 : ¬ (s : Int) < 0 := by omega
  have ht0 : ¬ (t : Int) < 0 := by omega
  go_enter Tryz.func9, Tryz.ntmps9
  go_upto_region 5 with (go_at_call 36; refine (C0.out _ GG).mono ?_; rintro e w' ⟨rfl, hg⟩; obtain ⟨x0, rfl⟩ := hg.later; clear hg)
  have a3 : Arr x0.now w.heap.size 24 [.int .i64 (N : Int), .slice A E.length c0] := (Arr.make w _ _).grow (show Grows (w.alloc (.cells #[.int .i64 (N : Int), .slice A E.length c0] 24)) x0.now from GG)
  have a6 := HR.out.grow x0.grows
  have hgw : Grows w x0.now := GG
  have hb36 : w.heap.size ≠ w.heap.size + 1 := by omega
  have hb6 : w.heap.size ≤ w.heap.size + 1 := by omega
  have hlt6 := a6.lt
  clear HR C0
  generalize w.heap.size + 1 = b6 at *
  generalize hb3 : w.heap.size = b3 at *
  replace hb3 := hide hb3
  generalize x0.now = W5 at *
  obtain ⟨y5, rfl⟩ := hgw.later
  have HB6 := hide hb6
  clear x0 hgw hb6
  obtain ⟨VV, hVV⟩ : ∃ V : Nat × Nat × Nat → Nat → Value, V = fun c j => ([.agg #[.int .i64 (N : Int), .slice A E.length c0], .int .i64 (s : Int), .int .i64 (t : Int), .agg #[.int .i64 (N : Int), .slice A E.length c0], .int .i64 (s : Int), .agg #[.bool false, .slice none 0 0, .slice none 0 0, .slice none 0 0, .int .u64 0],
    .slice (some ⟨c.1, 0, none⟩) N N, .agg #[.int .i64 (N : Int), .slice A E.length c0], .int .i64 (t : Int), .agg #[.bool true, .slice none 0 0, .slice none 0 0, .slice none 0 0, .int .u64 0], .slice (some ⟨c.2.1, 0, none⟩) N N,
    .agg #[.int .i64 (N : Int), .slice A E.length c0, .int .i64 (s : Int), .int .i64 (t : Int), .slice (some ⟨c.1, 0, none⟩) N N, .slice (some ⟨c.2.1, 0, none⟩) N N], .pointer (some ⟨c.2.2, 0, none⟩), undef] : List Value).getD j undef := ⟨_, rfl⟩
  refine wp_region_some (by kernel_rfl) (by kernel_rfl) (by kernel_rfl) (by kernel_rfl) (by kernel_rfl) VV
    (fun c D w1 => ∃ W, Grows y5.now W ∧ w1 = (if D 13 = true then st6 W c.2.2 (.int .i64 (N : Int)) (.slice A E.length c0) (.int .i64 (s : Int)) (.int .i64 (t : Int)) (.slice (some ⟨c.1, 0, none⟩) N N) (.slice (some ⟨c.2.1, 0, none⟩) N N) else W) ∧ (D 6 = true → Row1 W c.1 38 1 N N (wv T)) ∧ (D 10 = true → Row1 W c.2.1 38 1 N N (wv F)) ∧ (D 12 = true → y5.now.heap.size ≤ c.2.2 ∧ Arr W c.2.2 33 [.int .i64 0, .slice none 0 0, .int .i64 0, .int .i64 0, .slice none 0 0, .slice none 0 0]))
    (0, 0, 0) ⟨y5.now.drew, (Grows.refl _).drew, by simp, fun h => absurd h (by simp), fun h => absurd h (by simp), fun h => absurd h (by simp)⟩ ?hs ?he
  case hs =>
    subst hVV
    intro c a hV hO i oo ho D hcl hD hpre w1 hM
    match i, ho, hD, hpre with
    | 0, ho, hD, hpre =>
      cases (show some _ = some oo from ho)
      have e3 := ev_nfK ((hO 3 (notDstK (by kernel_rfl))).trans rfl)
      have h13 : D 13 = false := by
        cases hd : D 13 with
        | false => rfl
        | true => exact absurd (hcl 11 0 (hcl 13 11 hd (by kernel_rfl)) (by kernel_rfl)) (by rw [hD]; exact Bool.false_ne_true)
      obtain ⟨W, hgW, hw, hR1, hR2, hA⟩ := hM
      rw [h13, if_neg Bool.false_ne_true] at hw
      subst hw
      obtain ⟨x, rfl⟩ := hgW.later
      refine runsTo_mono (Q := fun u w1 => w1 = x.now ∧ u = (.agg #[.int .i64 (N : Int), .slice A E.length c0] : Value)) ?_ (fun u w1 ⟨h1, h2⟩ => ⟨c, ⟨x.now, x.grows, by rw [h1]; simp [h13], by simpa using hR1, by simpa using hR2, by simpa using hA⟩, fun _ _ _ => rfl, .inr h2⟩)
      go_simp
      all_goals exact ⟨rfl, rfl⟩
    | 1, ho, hD, hpre =>
      cases (show some _ = some oo from ho)
      have e1 := ev_nfK ((hO 1 (notDstK (by kernel_rfl))).trans rfl)
      have h13 : D 13 = false := by
        cases hd : D 13 with
        | false => rfl
        | true => exact absurd (hcl 11 1 (hcl 13 11 hd (by kernel_rfl)) (by kernel_rfl)) (by rw [hD]; exact Bool.false_ne_true)
      obtain ⟨W, hgW, hw, hR1, hR2, hA⟩ := hM
      rw [h13, if_neg Bool.false_ne_true] at hw
      subst hw
      obtain ⟨x, rfl⟩ := hgW.later
      refine runsTo_mono (Q := fun u w1 => w1 = x.now ∧ u = (.int .i64 (s : Int) : Value)) ?_ (fun u w1 ⟨h1, h2⟩ => ⟨c, ⟨x.now, x.grows, by rw [h1]; simp [h13], by simpa using hR1, by simpa using hR2, by simpa using hA⟩, fun _ _ _ => rfl, .inr h2⟩)
      go_simp
      all_goals exact ⟨rfl, rfl⟩
    | 2, ho, hD, hpre =>
      cases (show some _ = some oo from ho)
      have e2 := ev_nfK ((hO 2 (notDstK (by kernel_rfl))).trans rfl)
      have h13 : D 13 = false := by
        cases hd : D 13 with
        | false => rfl
        | true => exact absurd (hcl 11 2 (hcl 13 11 hd (by kernel_rfl)) (by kernel_rfl)) (by rw [hD]; exact Bool.false_ne_true)
      obtain ⟨W, hgW, hw, hR1, hR2, hA⟩ := hM
      rw [h13, if_neg Bool.false_ne_true] at hw
      subst hw
      obtain ⟨x, rfl⟩ := hgW.later
      refine runsTo_mono (Q := fun u w1 => w1 = x.now ∧ u = (.int .i64 (t : Int) : Value)) ?_ (fun u w1 ⟨h1, h2⟩ => ⟨c, ⟨x.now, x.grows, by rw [h1]; simp [h13], by simpa using hR1, by simpa using hR2, by simpa using hA⟩, fun _ _ _ => rfl, .inr h2⟩)
      go_simp
      all_goals exact ⟨rfl, rfl⟩
    | 3, ho, hD, hpre =>
      cases (show some _ = some oo from ho)
      have e3 := ev_nfK ((hO 3 (notDstK (by kernel_rfl))).trans rfl)
      have h13 : D 13 = false := by
        cases hd : D 13 with
        | false => rfl
        | true => exact absurd (hcl 6 3 (hcl 11 6 (hcl 13 11 hd (by kernel_rfl)) (by kernel_rfl)) (by kernel_rfl)) (by rw [hD]; exact Bool.false_ne_true)
      obtain ⟨W, hgW, hw, hR1, hR2, hA⟩ := hM
      rw [h13, if_neg Bool.false_ne_true] at hw
      subst hw
      obtain ⟨x, rfl⟩ := hgW.later
      refine runsTo_mono (Q := fun u w1 => w1 = x.now ∧ u = (.agg #[.int .i64 (N : Int), .slice A E.length c0] : Value)) ?_ (fun u w1 ⟨h1, h2⟩ => ⟨c, ⟨x.now, x.grows, by rw [h1]; simp [h13], by simpa using hR1, by simpa using hR2, by simpa using hA⟩, fun _ _ _ => rfl, .inr h2⟩)
      go_simp
      all_goals exact ⟨rfl, rfl⟩
    | 4, ho, hD, hpre =>
      cases (show some _ = some oo from ho)
      have e1 := ev_nfK ((hO 1 (notDstK (by kernel_rfl))).trans rfl)
      have h13 : D 13 = false := by
        cases hd : D 13 with
        | false => rfl
        | true => exact absurd (hcl 6 4 (hcl 11 6 (hcl 13 11 hd (by kernel_rfl)) (by kernel_rfl)) (by kernel_rfl)) (by rw [hD]; exact Bool.false_ne_true)
      obtain ⟨W, hgW, hw, hR1, hR2, hA⟩ := hM
      rw [h13, if_neg Bool.false_ne_true] at hw
      subst hw
      obtain ⟨x, rfl⟩ := hgW.later
      refine runsTo_mono (Q := fun u w1 => w1 = x.now ∧ u = (.int .i64 (s : Int) : Value)) ?_ (fun u w1 ⟨h1, h2⟩ => ⟨c, ⟨x.now, x.grows, by rw [h1]; simp [h13], by simpa using hR1, by simpa using hR2, by simpa using hA⟩, fun _ _ _ => rfl, .inr h2⟩)
      go_simp
      all_goals exact ⟨rfl, rfl⟩
    | 5, ho, hD, hpre =>
      cases (show some _ = some oo from ho)
      have h13 : D 13 = false := by
        cases hd : D 13 with
        | false => rfl
        | true => exact absurd (hcl 6 5 (hcl 11 6 (hcl 13 11 hd (by kernel_rfl)) (by kernel_rfl)) (by kernel_rfl)) (by rw [hD]; exact Bool.false_ne_true)
      obtain ⟨W, hgW, hw, hR1, hR2, hA⟩ := hM
      rw [h13, if_neg Bool.false_ne_true] at hw
      subst hw
      obtain ⟨x, rfl⟩ := hgW.later
      refine runsTo_mono (Q := fun u w1 => w1 = x.now ∧ u = (.agg #[.bool false, .slice none 0 0, .slice none 0 0, .slice none 0 0, .int .u64 0] : Value)) ?_ (fun u w1 ⟨h1, h2⟩ => ⟨c, ⟨x.now, x.grows, by rw [h1]; simp [h13], by simpa using hR1, by simpa using hR2, by simpa using hA⟩, fun _ _ _ => rfl, .inr h2⟩)
      go_simp
      all_goals exact ⟨rfl, rfl⟩
    | 6, ho, hD, hpre =>
      cases (show some _ = some oo from ho)
      have e35 := ev_nfK (hV 3 35 rfl)
      have e36 := ev_nfK (hV 4 36 rfl)
      have e37 := ev_nfK (hV 5 37 rfl)
      have h13 : D 13 = false := by
        cases hd : D 13 with
        | false => rfl
        | true => exact absurd (hcl 11 6 (hcl 13 11 hd (by kernel_rfl)) (by kernel_rfl)) (by rw [hD]; exact Bool.false_ne_true)
      have h6 : D 6 = false := hD
      have h11 : D 11 = false := by
        cases hd : D 11 with
        | false => rfl
        | true => exact absurd (hcl 11 6 hd (by kernel_rfl)) (by rw [hD]; exact Bool.false_ne_true)
      obtain ⟨W, hgW, hw, hR1, hR2, hA⟩ := hM
      rw [h13, if_neg Bool.false_ne_true] at hw
      subst hw
      obtain ⟨x, rfl⟩ := hgW.later
      refine runsTo_mono (Q := fun u w1 => Grows x.now w1 ∧ ∃ g, u = .slice (some ⟨g, 0, none⟩) N N ∧ Row1 w1 g 38 1 N N (wv T)) ?_ (fun u w1 ⟨h4, g, h1, h2⟩ => ⟨(g, c.2.1, c.2.2), ⟨w1, x.grows.trans h4, by simp [h13], fun _ => h2, fun hd => (hR2 (by simpa using hd)).grow h4, fun hd => ⟨(hA (by simpa using hd)).1, (hA (by simpa using hd)).2.grow h4⟩⟩, fun j _ hDj => ?_, .inr h1⟩)
      · go_simp
        refine (C4.out _ (y5.grows.trans x.grows)).mono ?_
        rintro e w2 ⟨g, rfl, hrow, hg⟩
        exact ⟨_, rfl, hg, g, rfl, hrow⟩
      · match j, hDj with
        | 0, _ => rfl
        | 1, _ => rfl
        | 2, _ => rfl
        | 3, _ => rfl
        | 4, _ => rfl
        | 5, _ => rfl
        | 6, hDj => exact absurd hDj (by rw [h6]; exact Bool.false_ne_true)
        | 7, _ => rfl
        | 8, _ => rfl
        | 9, _ => rfl
        | 10, _ => rfl
        | 11, hDj => exact absurd hDj (by rw [h11]; exact Bool.false_ne_true)
        | 12, _ => rfl
        | 13, _ => rfl
        | n + 14, _ => rfl
    | 7, ho, hD, hpre =>
      cases (show some _ = some oo from ho)
      have e3 := ev_nfK ((hO 3 (notDstK (by kernel_rfl))).trans rfl)
      have h13 : D 13 = false := by
        cases hd : D 13 with
        | false => rfl
        | true => exact absurd (hcl 10 7 (hcl 11 10 (hcl 13 11 hd (by kernel_rfl)) (by kernel_rfl)) (by kernel_rfl)) (by rw [hD]; exact Bool.false_ne_true)
      obtain ⟨W, hgW, hw, hR1, hR2, hA⟩ := hM
      rw [h13, if_neg Bool.false_ne_true] at hw
      subst hw
      obtain ⟨x, rfl⟩ := hgW.later
      refine runsTo_mono (Q := fun u w1 => w1 = x.now ∧ u = (.agg #[.int .i64 (N : Int), .slice A E.length c0] : Value)) ?_ (fun u w1 ⟨h1, h2⟩ => ⟨c, ⟨x.now, x.grows, by rw [h1]; simp [h13], by simpa using hR1, by simpa using hR2, by simpa using hA⟩, fun _ _ _ => rfl, .inr h2⟩)
      go_simp
      all_goals exact ⟨rfl, rfl⟩
    | 8, ho, hD, hpre =>
      cases (show some _ = some oo from ho)
      have e2 := ev_nfK ((hO 2 (notDstK (by kernel_rfl))).trans rfl)
      have h13 : D 13 = false := by
        cases hd : D 13 with
        | false => rfl
        | true => exact absurd (hcl 10 8 (hcl 11 10 (hcl 13 11 hd (by kernel_rfl)) (by kernel_rfl)) (by kernel_rfl)) (by rw [hD]; exact Bool.false_ne_true)
      obtain ⟨W, hgW, hw, hR1, hR2, hA⟩ := hM
      rw [h13, if_neg Bool.false_ne_true] at hw
      subst hw
      obtain ⟨x, rfl⟩ := hgW.later
      refine runsTo_mono (Q := fun u w1 => w1 = x.now ∧ u = (.int .i64 (t : Int) : Value)) ?_ (fun u w1 ⟨h1, h2⟩ => ⟨c, ⟨x.now, x.grows, by rw [h1]; simp [h13], by simpa using hR1, by simpa using hR2, by simpa using hA⟩, fun _ _ _ => rfl, .inr h2⟩)
      go_simp
      all_goals exact ⟨rfl, rfl⟩
    | 9, ho, hD, hpre =>
      cases (show some _ = some oo from ho)
      have h13 : D 13 = false := by
        cases hd : D 13 with
        | false => rfl
        | true => exact absurd (hcl 10 9 (hcl 11 10 (hcl 13 11 hd (by kernel_rfl)) (by kernel_rfl)) (by kernel_rfl)) (by rw [hD]; exact Bool.false_ne_true)
      obtain ⟨W, hgW, hw, hR1, hR2, hA⟩ := hM
      rw [h13, if_neg Bool.false_ne_true] at hw
      subst hw
      obtain ⟨x, rfl⟩ := hgW.later
      refine runsTo_mono (Q := fun u w1 => w1 = x.now ∧ u = (.agg #[.bool true, .slice none 0 0, .slice none 0 0, .slice none 0 0, .int .u64 0] : Value)) ?_ (fun u w1 ⟨h1, h2⟩ => ⟨c, ⟨x.now, x.grows, by rw [h1]; simp [h13], by simpa using hR1, by simpa using hR2, by simpa using hA⟩, fun _ _ _ => rfl, .inr h2⟩)
      go_simp
      all_goals exact ⟨rfl, rfl⟩
    | 10, ho, hD, hpre =>
      cases (show some _ = some oo from ho)
      have e39 := ev_nfK (hV 7 39 rfl)
      have e40 := ev_nfK (hV 8 40 rfl)
      have e41 := ev_nfK (hV 9 41 rfl)
      have h13 : D 13 = false := by
        cases hd : D 13 with
        | false => rfl
        | true => exact absurd (hcl 11 10 (hcl 13 11 hd (by kernel_rfl)) (by kernel_rfl)) (by rw [hD]; exact Bool.false_ne_true)
      have h10 : D 10 = false := hD
      have h11 : D 11 = false := by
        cases hd : D 11 with
        | false => rfl
        | true => exact absurd (hcl 11 10 hd (by kernel_rfl)) (by rw [hD]; exact Bool.false_ne_true)
      obtain ⟨W, hgW, hw, hR1, hR2, hA⟩ := hM
      rw [h13, if_neg Bool.false_ne_true] at hw
      subst hw
      obtain ⟨x, rfl⟩ := hgW.later
      refine runsTo_mono (Q := fun u w1 => Grows x.now w1 ∧ ∃ g, u = .slice (some ⟨g, 0, none⟩) N N ∧ Row1 w1 g 38 1 N N (wv F)) ?_ (fun u w1 ⟨h4, g, h1, h2⟩ => ⟨(c.1, g, c.2.2), ⟨w1, x.grows.trans h4, by simp [h13], fun hd => (hR1 (by simpa using hd)).grow h4, fun _ => h2, fun hd => ⟨(hA (by simpa using hd)).1, (hA (by simpa using hd)).2.grow h4⟩⟩, fun j _ hDj => ?_, .inr h1⟩)
      · go_simp
        refine (C5.out _ (y5.grows.trans x.grows)).mono ?_
        rintro e w2 ⟨g, rfl, hrow, hg⟩
        exact ⟨_, rfl, hg, g, rfl, hrow⟩
      · match j, hDj with
        | 0, _ => rfl
        | 1, _ => rfl
        | 2, _ => rfl
        | 3, _ => rfl
        | 4, _ => rfl
        | 5, _ => rfl
        | 6, _ => rfl
        | 7, _ => rfl
        | 8, _ => rfl
        | 9, _ => rfl
        | 10, hDj => exact absurd hDj (by rw [h10]; exact Bool.false_ne_true)
        | 11, hDj => exact absurd hDj (by rw [h11]; exact Bool.false_ne_true)
        | 12, _ => rfl
        | 13, _ => rfl
        | n + 14, _ => rfl
    | 11, ho, hD, hpre =>
      cases (show some _ = some oo from ho)
      have e32 := ev_nfK (hV 0 32 rfl)
      have e33 := ev_nfK (hV 1 33 rfl)
      have e34 := ev_nfK (hV 2 34 rfl)
      have e38 := ev_nfK (hV 6 38 rfl)
      have e42 := ev_nfK (hV 10 42 rfl)
      have h13 : D 13 = false := by
        cases hd : D 13 with
        | false => rfl
        | true => exact absurd (hcl 13 11 hd (by kernel_rfl)) (by rw [hD]; exact Bool.false_ne_true)
      obtain ⟨W, hgW, hw, hR1, hR2, hA⟩ := hM
      rw [h13, if_neg Bool.false_ne_true] at hw
      subst hw
      obtain ⟨x, rfl⟩ := hgW.later
      refine runsTo_mono (Q := fun u w1 => w1 = x.now ∧ u = (.agg #[.int .i64 (N : Int), .slice A E.length c0, .int .i64 (s : Int), .int .i64 (t : Int), .slice (some ⟨c.1, 0, none⟩) N N, .slice (some ⟨c.2.1, 0, none⟩) N N] : Value)) ?_ (fun u w1 ⟨h1, h2⟩ => ⟨c, ⟨x.now, x.grows, by rw [h1]; simp [h13], by simpa using hR1, by simpa using hR2, by simpa using hA⟩, fun _ _ _ => rfl, .inr h2⟩)
      go_simp
      all_goals exact ⟨rfl, rfl⟩
    | 12, ho, hD, hpre =>
      cases (show some _ = some oo from ho)
      have h13 : D 13 = false := by
        cases hd : D 13 with
        | false => rfl
        | true => exact absurd (hcl 13 12 hd (by kernel_rfl)) (by rw [hD]; exact Bool.false_ne_true)
      have h12 : D 12 = false := hD
      obtain ⟨W, hgW, hw, hR1, hR2, hA⟩ := hM
      rw [h13, if_neg Bool.false_ne_true] at hw
      subst hw
      obtain ⟨x, rfl⟩ := hgW.later
      have h4 : Grows x.now (x.now.alloc (.cells #[.int .i64 0, .slice none 0 0, .int .i64 0, .int .i64 0, .slice none 0 0, .slice none 0 0] 33)) := (Grows.refl _).new _
      refine runsTo_mono (Q := fun u w1 => w1 = x.now.alloc (.cells #[.int .i64 0, .slice none 0 0, .int .i64 0, .int .i64 0, .slice none 0 0, .slice none 0 0] 33) ∧ u = (.pointer (some ⟨x.now.heap.size, 0, none⟩) : Value)) ?_ (fun u w1 ⟨h5, h1⟩ => ⟨(c.1, c.2.1, x.now.heap.size), ⟨_, x.grows.trans h4, by simp [h13, h5], fun hd => (hR1 (by simpa using hd)).grow h4, fun hd => (hR2 (by simpa using hd)).grow h4, fun _ => ⟨x.size, Arr.make _ _ _⟩⟩, fun j _ hDj => ?_, .inr h1⟩)
      · go_simp
        all_goals exact ⟨rfl, rfl⟩
      · match j, hDj with
        | 0, _ => rfl
        | 1, _ => rfl
        | 2, _ => rfl
        | 3, _ => rfl
        | 4, _ => rfl
        | 5, _ => rfl
        | 6, _ => rfl
        | 7, _ => rfl
        | 8, _ => rfl
        | 9, _ => rfl
        | 10, _ => rfl
        | 11, _ => rfl
        | 12, hDj => exact absurd hDj (by rw [h12]; exact Bool.false_ne_true)
        | 13, _ => rfl
        | n + 14, _ => rfl
    | 13, ho, hD, hpre =>
      cases (show some _ = some oo from ho)
      have e8 := ev_nfK (hV 12 8 rfl)
      have e43 := ev_nfK (hV 11 43 rfl)
      have h13 : D 13 = false := hD
      have h12 : D 12 = true := hpre 12 (by kernel_rfl)
      obtain ⟨W, hgW, hw, hR1, hR2, hA⟩ := hM
      rw [h13, if_neg Bool.false_ne_true] at hw
      subst hw
      obtain ⟨x, rfl⟩ := hgW.later
      have t0 := (hA h12).2.mine 0 rfl
      have t1 := (hA h12).2.mine 1 rfl
      have t2 := (hA h12).2.mine 2 rfl
      have t3 := (hA h12).2.mine 3 rfl
      have t4 := (hA h12).2.mine 4 rfl
      have t5 := (hA h12).2.mine 5 rfl
      refine runsTo_mono (Q := fun u w2 => w2 = st6 x.now c.2.2 (.int .i64 (N : Int)) (.slice A E.length c0) (.int .i64 (s : Int)) (.int .i64 (t : Int)) (.slice (some ⟨c.1, 0, none⟩) N N) (.slice (some ⟨c.2.1, 0, none⟩) N N)) ?_ (fun u w2 h1 => ⟨c, ⟨x.now, x.grows, by rw [h1]; simp, by simpa using hR1, by simpa using hR2, by simpa using hA⟩, fun _ _ _ => rfl, .inl rfl⟩)
      go_simp
      all_goals rfl
    | n + 14, ho, hD, hpre => cases ho
  case he =>
    intro c w1 hM
    obtain ⟨W, hgW, hw, hR1, hR2, hA⟩ := hM
    replace hR1 := hR1 rfl
    replace hR2 := hR2 rfl
    obtain ⟨hbx, hA⟩ := hA rfl
    rw [if_pos rfl] at hw
    obtain ⟨g1, g2, bx⟩ := c
    simp only at hw hR1 hR2 hA hbx
    subst hw
    have htt := st6_touch W bx (.int .i64 (N : Int)) (.slice A E.length c0) (.int .i64 (s : Int)) (.int .i64 (t : Int)) (.slice (some ⟨g1, 0, none⟩) N N) (.slice (some ⟨g2, 0, none⟩) N N)
    have aE := st6_is hA (.int .i64 (N : Int)) (.slice A E.length c0) (.int .i64 (s : Int)) (.int .i64 (t : Int)) (.slice (some ⟨g1, 0, none⟩) N N) (.slice (some ⟨g2, 0, none⟩) N N)
    have HN1 := hide (row_neT hR1 (a6.grow hgW))
    have HN2 := hide (row_neT hR2 (a6.grow hgW))
    have HR1 := hide (hR1.rd.putB (row_neT hR1 hA) htt)
    have HR2 := hide (hR2.rd.putB (row_neT hR2 hA) htt)
    have hsz5 := y5.size
    have hgE := htt.later (y5.grows.trans hgW) (fun k hk => by rw [hk]; omega)
    have a6E := (a6.grow hgW).touch htt (by omega)
    clear hR1 hR2 hA a3 a6 htt C4 C5
    generalize st6 W bx (.int .i64 (N : Int)) (.slice A E.length c0) (.int .i64 (s : Int)) (.int .i64 (t : Int)) (.slice (some ⟨g1, 0, none⟩) N N) (.slice (some ⟨g2, 0, none⟩) N N) = W9 at *
    subst hVV
    obtain ⟨_, b1, o1, e1, hc1⟩ := HR1.out.wvH (by omega)
    injection e1 with e1
    injection e1 with e1 e2
    subst e1 e2
    have k1 := hc1 t ht
    rw [Nat.zero_add] at k1
    obtain ⟨tt, htt⟩ : ∃ q : Int, (gn T t : Int) = q := ⟨_, rfl⟩
    rw [htt] at k1
    obtain ⟨y9, rfl⟩ := hgE.later
    simp only [putAll, dstOf, List.length_cons, List.length_nil, Nat.reduceAdd, List.getElem?_cons_zero, List.getElem?_cons_succ, Option.bind_some, List.getD_cons_zero, List.getD_cons_succ, Act.put, List.setIfInBounds_toArray, List.set_cons_zero, List.set_cons_succ]
    have t0 := aE.mine 0 rfl
    have t1 := aE.mine 1 rfl
    have t2 := aE.mine 2 rfl
    have t3 := aE.mine 3 rfl
    have t4 := aE.mine 4 rfl
    have t5 := aE.mine 5 rfl
    have z0 := a6E.mine 0 rfl
    have z1 := a6E.mine 1 rfl
    have z2 := a6E.mine 2 rfl
    have z3 := a6E.mine 3 rfl
    have z4 := a6E.mine 4 rfl
    have z5 := a6E.mine 5 rfl
    have hne : b6 ≠ bx := by omega
    by_cases hlt : gn T t < farV
    · have hnf : ¬ (4611686018427387904 : Int) ≤ tt := by unfold farV at hlt; omega
      have HLT := hide hlt
      clear hc1 htt hlt
      have HZ := hide (st6_is a6E (.int .i64 (N : Int)) (.slice A E.length c0) (.int .i64 (s : Int)) (.int .i64 (t : Int)) (.slice (some ⟨g1, 0, none⟩) N N) (.slice (some ⟨g2, 0, none⟩) N N))
      have HZT := hide (st6_touch y9.now b6 (.int .i64 (N : Int)) (.slice A E.length c0) (.int .i64 (s : Int)) (.int .i64 (t : Int)) (.slice (some ⟨g1, 0, none⟩) N N) (.slice (some ⟨g2, 0, none⟩) N N))
      go_wp2_with fail
      unfold st6 at HZ HZT
      have u0 := HZ.out.mine 0 rfl
      have u1 := HZ.out.mine 1 rfl
      have u2 := HZ.out.mine 2 rfl
      have u3 := HZ.out.mine 3 rfl
      have u4 := HZ.out.mine 4 rfl
      have u5 := HZ.out.mine 5 rfl
      have HGF := hide (HZT.out.later hgE (fun k hk => by rw [hk]; have := HB6.out; have := hb3.out; omega))
      have HS1 := hide (HR1.out.putB HN1.out HZT.out)
      have HS2 := hide (HR2.out.putB HN2.out HZT.out)
      clear HZ HZT
      generalize World.setCell _ _ _ = W8 at *
      refine bodyPost_ret (v := .tuple #[.agg #[.int .i64 (N : Int), .slice A E.length c0, .int .i64 (s : Int), .int .i64 (t : Int), .slice (some ⟨g1, 0, none⟩) N N, .slice (some ⟨g2, 0, none⟩) N N], .int .i64 0]) (by simp (maxDischargeDepth := 8) [results, Tryz.results9, go_sem, *]) rfl ⟨.inl ⟨HLT.out, g1, g2, rfl, HS1.out, HS2.out⟩, HGF.out⟩
    · have hnf : (4611686018427387904 : Int) ≤ tt := by unfold farV at hlt; omega
      have HLT := hide hlt
      clear hc1 htt hlt
      have HZ := hide (st6_is a6E (.int .i64 0) (.slice none 0 0) (.int .i64 0) (.int .i64 0) (.slice none 0 0) (.slice none 0 0))
      have HZT := hide (st6_touch y9.now b6 (.int .i64 0) (.slice none 0 0) (.int .i64 0) (.int .i64 0) (.slice none 0 0) (.slice none 0 0))
      go_wp2_with fail
      unfold st6 at HZ HZT
      have u0 := HZ.out.mine 0 rfl
      have u1 := HZ.out.mine 1 rfl
      have u2 := HZ.out.mine 2 rfl
      have u3 := HZ.out.mine 3 rfl
      have u4 := HZ.out.mine 4 rfl
      have u5 := HZ.out.mine 5 rfl
      have HGF := hide (HZT.out.later hgE (fun k hk => by rw [hk]; have := HB6.out; have := hb3.out; omega))
      clear HZ HZT
      generalize World.setCell _ _ _ = W8 at *
      refine bodyPost_ret (v := .tuple #[.agg #[.int .i64 0, .slice none 0 0, .int .i64 0, .int .i64 0, .slice none 0 0, .slice none 0 0], .int .i64 9]) (by simp (maxDischargeDepth := 8) [results, Tryz.results9, go_sem, *]) rfl ⟨.inr ⟨by have := HLT.out; omega, rfl⟩, HGF.out⟩
end Go.Proofs.YtomednfddpggaaaGreat

/- Contracts: why no Dag is made, by the program. -/
namespace Go.Proofs.YtomednfddpggaaaGreat
open Go Go.RowKit
attribute [local go_sem] Oper.semAt_some
set_option maxRecDepth 20000 in
set_option maxHeartbeats 4000000 in
theorem dagNewBad (N s t : Int) (A : Option Addr) (n c : Nat) (E : List Edg) (w : World) (h : Rd w A 3 n (esCells E)) (hn : n ≤ 1000000) (hr : rightF N E ≠ 0) :
    Calls Tryz.prog 8 #[.agg #[.int .i64 N, .slice A n c], .int .i64 s, .int .i64 t] w fun e w' => e = .returned (.tuple #[.pointer none, .int .i64 1]) ∧ Grows w w' := by
  have C0 := hide (fun (W : World) (g : Grows w W) => gRight N A n c E W (h.grows g) hn)
  have hb : (rightF N E != 0) = true := bne_iff_ne.2 hr
  clear h hr
  generalize rightF N E = r at *
  go_enter Tryz.func8, Tryz.ntmps8
  go_wp2_with (go_at_call 31; refine (C0.out _ GG).mono ?_; rintro e w' ⟨rfl, hg⟩; obtain ⟨x0, rfl⟩ := hg.later; clear hg)
  refine bodyPost_ret (v := .tuple #[.pointer none, .int .i64 1]) (by simp (maxDischargeDepth := 6) [results, Tryz.results8, go_sem, *]) rfl ⟨rfl, GG⟩
set_option maxRecDepth 20000 in
set_option maxHeartbeats 4000000 in
theorem dagNewNode (N s t : Int) (A : Option Addr) (n c : Nat) (E : List Edg) (w : World) (h : Rd w A 3 n (esCells E)) (hn : n ≤ 1000000) (hr : rightF N E = 0) (hno : (nodeB N s && nodeB N t) = false) :
    Calls Tryz.prog 8 #[.agg #[.int .i64 N, .slice A n c], .int .i64 s, .int .i64 t] w fun e w' => e = .returned (.tuple #[.pointer none, .int .i64 7]) ∧ Grows w w' := by
  have C0 := hide (fun (W : World) (g : Grows w W) => by have := gRight N A n c E W (h.grows g) hn; rw [hr] at this; exact this)
  have C1 := hide (fun (v : Int) (W : World) => gNode N v (.slice A n c) W)
  clear h hr
  cases h1 : nodeB N s with
  | false =>
    have H1 := hide h1
    clear hno h1
    go_enter Tryz.func8, Tryz.ntmps8
    go_wp2_with (first
      | (go_at_call 31; refine (C0.out _ GG).mono ?_; rintro e w' ⟨rfl, hg⟩; obtain ⟨x0, rfl⟩ := hg.later; clear hg)
      | (go_at_call 32; refine (C1.out _ _).mono ?_; rintro e w' ⟨rfl, hg⟩; obtain ⟨x1, rfl⟩ := hg.later; clear hg; (try rw [H1.out])))
    refine bodyPost_ret (v := .tuple #[.pointer none, .int .i64 7]) (by simp (maxDischargeDepth := 6) [results, Tryz.results8, go_sem, *]) rfl ⟨rfl, GG⟩
  | true =>
    rw [h1, Bool.true_and] at hno
    go_enter Tryz.func8, Tryz.ntmps8
    go_wp2_with (first
      | (go_at_call 31; refine (C0.out _ GG).mono ?_; rintro e w' ⟨rfl, hg⟩; obtain ⟨x0, rfl⟩ := hg.later; clear hg)
      | (go_at_call 32; refine (C1.out _ _).mono ?_; rintro e w' ⟨rfl, hg⟩; obtain ⟨x1, rfl⟩ := hg.later; clear hg))
    refine bodyPost_ret (v := .tuple #[.pointer none, .int .i64 7]) (by simp (maxDischargeDepth := 6) [results, Tryz.results8, go_sem, *]) rfl ⟨rfl, GG⟩
end Go.Proofs.YtomednfddpggaaaGreat

/- A row of numbers as a value that hangs on the world. -/
namespace Go.Proofs.YtomednfddpggaaaGreat
open Go Go.RowKit
def IRow (L : List Int) : Pr := fun u w => ∃ A c, u = .slice A L.length c ∧ Rd w A 1 L.length (L.map (.int .i64))
theorem IRow.lasts (L : List Int) : Lasts (IRow L) := fun _ _ _ hg ⟨A, c, e, h⟩ => ⟨A, c, e, h.grows hg⟩
end Go.Proofs.YtomednfddpggaaaGreat

/- Contract: are two rows of numbers the same? -/
namespace Go.Proofs.YtomednfddpggaaaGreat
open Go Go.RowKit
set_option maxHeartbeats 1000000 in
theorem r1Same (A : Option Addr) (n c : Nat) (l : List Int) (B : Option Addr) (m d : Nat) (l' : List Int) (w : World) (h : Rd w A 1 n (l.map (.int .i64))) (hn : n ≤ 1000000) (h' : Rd w B 1 m (l'.map (.int .i64))) (hm : m ≤ 1000000) :
    Calls Tryz.prog 13 #[.slice A n c, .slice B m d] w fun e w' => e = .returned (.bool (decide (l = l'))) ∧ Grows w w' := by
  have HL := hide (show l.length = n by simpa using h.len)
  have HM := hide (show l'.length = m by simpa using h'.len)
  have HR := hide h
  have HS := hide h'
  clear h h'
  by_cases hnm : n = m
  · subst hnm
    go_enter Tryz.func13, Tryz.ntmps13
    go_wp2
    go_loopw [5] (fun i wr => ∃ k : Nat, k ≤ n ∧ i = .int .i64 (k : Int) ∧ (∃ y : Later w, wr = y.now) ∧ ∀ j, j < k → gi l j = gi l' j) (fun i _ => n - (intOf i).toNat)
    case atStart => exact ⟨0, by omega, by go_num, ⟨⟨w, Grows.refl w⟩, rfl⟩, fun j h => by omega⟩
    case round =>
      obtain ⟨k, hk, rfl, ⟨y, rfl⟩, hall⟩ := hrel
      have HA := hide hall
      clear hall
      by_cases hend : n ≤ k
      · have HV : Hid (l = l') := by
          apply List.ext_getElem (by rw [HL.out, HM.out])
          intro j h1 h2
          have := HA.out j (by have := HL.out; omega)
          simpa [gi, h1, h2] using this
        go_wp2
        go_ret
        exact ⟨ret_bool (decide_eq_true HV.out).symm, GG⟩
      · obtain ⟨b, off, rfl, hc⟩ := HR.out.intsH (by omega)
        obtain ⟨b2, off2, rfl, hc2⟩ := HS.out.intsH (by omega)
        have c1 := hc k (by omega)
        have c2 := hc2 k (by omega)
        clear hc hc2
        by_cases he : gi l k = gi l' k
        · have HE : Hid (∀ j, j < k + 1 → gi l j = gi l' j) := fun j hj => by
            by_cases e : j = k
            · rw [e]; exact he
            · exact HA.out j (by omega)
          have hd : (gi l k == gi l' k) = true := by simpa using he
          clear he
          generalize gi l k = u at *
          generalize gi l' k = v at *
          go_wp2_with fail
          ((first | refine wp_region_gen (by kernel_rfl) (by kernel_rfl) ?_); (repeat' (first | (refine gLex_val0 rfl (by kernel_rfl) (fun K hK => ?_); (go_simp; (try (simp only [↓IntWalk.iteOmega]; try go_simp)); (try simp (disch := omega) only [IntWalk.i64_in]); (try simp (disch := omega) only [IntWalk.u64_in]); first | (refine hK _ ?_; clear hK K) | (apply Exists.intro; refine ⟨fun x => ?_, hK _ ?_⟩; (first | fail); clear hK K))) | (refine gLex_undef rfl rfl rfl (by kernel_rfl) (fun K hK => ?_); go_simp; refine hK _ ?_; clear hK K) | (refine gLex_ask rfl rfl rfl ?_; first | (apply gAsk_yes; kernel_rfl; intro K hK; (go_simp; (try (simp only [↓IntWalk.iteOmega]; try go_simp)); (try simp (disch := omega) only [IntWalk.i64_in]); (try simp (disch := omega) only [IntWalk.u64_in]); first | (refine hK _ ?_; clear hK K) | (apply Exists.intro; refine ⟨fun x => ?_, hK _ ?_⟩; (first | fail); clear hK K))) | ((first | apply gAsk_no1 | apply gAsk_no2); kernel_rfl; intro K hK; simp [go_sem]; refine hK _ ?_; clear hK K) | (apply gAsk_part; kernel_rfl; all_goals (intro h K hK; (try simp only [Bool.not_true] at h); (try simp only [Bool.not_false] at h); (try simp only [decide_eq_true_eq] at h); (try simp only [decide_eq_false_iff_not] at h); first | (exfalso; first | contradiction | omega) | (go_simp; (try (simp only [↓IntWalk.iteOmega]; try go_simp)); (try simp (disch := omega) only [IntWalk.i64_in]); (try simp (disch := omega) only [IntWalk.u64_in]); first | (refine hK _ ?_; clear hK K) | (apply Exists.intro; refine ⟨fun x => ?_, hK _ ?_⟩; (first | fail); clear hK K))))))); all_goals ((apply gLex_end); intro x))
          go_wp2
          refine ⟨⟨k + 1, by omega, by go_num, Grows.later GG, HE.out⟩, by simp [intOf]; omega⟩
        · have HV : Hid (¬ l = l') := fun e => he (by rw [e])
          have hd : (gi l k == gi l' k) = false := by simpa using he
          clear he
          go_wp2_with fail
          ((first | refine wp_region_gen (by kernel_rfl) (by kernel_rfl) ?_); (repeat' (first | (refine gLex_val0 rfl (by kernel_rfl) (fun K hK => ?_); (go_simp; (try (simp only [↓IntWalk.iteOmega]; try go_simp)); (try simp (disch := omega) only [IntWalk.i64_in]); (try simp (disch := omega) only [IntWalk.u64_in]); first | (refine hK _ ?_; clear hK K) | (apply Exists.intro; refine ⟨fun x => ?_, hK _ ?_⟩; (first | fail); clear hK K))) | (refine gLex_undef rfl rfl rfl (by kernel_rfl) (fun K hK => ?_); go_simp; refine hK _ ?_; clear hK K) | (refine gLex_ask rfl rfl rfl ?_; first | (apply gAsk_yes; kernel_rfl; intro K hK; (go_simp; (try (simp only [↓IntWalk.iteOmega]; try go_simp)); (try simp (disch := omega) only [IntWalk.i64_in]); (try simp (disch := omega) only [IntWalk.u64_in]); first | (refine hK _ ?_; clear hK K) | (apply Exists.intro; refine ⟨fun x => ?_, hK _ ?_⟩; (first | fail); clear hK K))) | ((first | apply gAsk_no1 | apply gAsk_no2); kernel_rfl; intro K hK; simp [go_sem]; refine hK _ ?_; clear hK K) | (apply gAsk_part; kernel_rfl; all_goals (intro h K hK; (try simp only [Bool.not_true] at h); (try simp only [Bool.not_false] at h); (try simp only [decide_eq_true_eq] at h); (try simp only [decide_eq_false_iff_not] at h); first | (exfalso; first | contradiction | omega) | (go_simp; (try (simp only [↓IntWalk.iteOmega]; try go_simp)); (try simp (disch := omega) only [IntWalk.i64_in]); (try simp (disch := omega) only [IntWalk.u64_in]); first | (refine hK _ ?_; clear hK K) | (apply Exists.intro; refine ⟨fun x => ?_, hK _ ?_⟩; (first | fail); clear hK K))))))); all_goals ((apply gLex_end); intro x))
          go_wp2
          go_ret
          exact ⟨ret_bool (decide_eq_false HV.out).symm, GG⟩
  · have HV : Hid (¬ l = l') := fun e => hnm (by rw [← HL.out, ← HM.out, e])
    have hd : ((n : Int) == (m : Int)) = false := beq_eq_false_iff_ne.2 (by omega)
    go_enter Tryz.func13, Tryz.ntmps13
    go_wp2
    go_ret
    exact ⟨ret_bool (decide_eq_false HV.out).symm, GG⟩
end Go.Proofs.YtomednfddpggaaaGreat
