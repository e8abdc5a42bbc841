/- Contracts: how far it is without each edge of a shortest way, by the program. -/
import Derived.Test.YtomednfddpggaaaGreatQBridgeRows16
import Derived.Test.YtomednfddpggaaaGreatQBridgeRows19
import Derived.Test.YtomednfddpggaaaGreatQBridgeRows20
import Derived.Test.YtomednfddpggaaaGreatQBridgeRows04
import Derived.Test.YtomednfddpggaaaGreatQBridgeRows18
import Derived.Test.YtomednfddpggaaaGreatQBridgeRows15
/- Contracts: how far it is without each edge of a shortest way, by the program. -/
namespace Go.Proofs.YtomednfddpggaaaGreat
open Go Go.RowKit
attribute [local go_sem] Oper.semAt_some
theorem elemVital : Elem 46 53 2 := by
  have h : (Tryz.prog.info? 53).map (fun i => (i.zero, i.size, i.bytes)) = some (some (.agg #[.int .i64 0, .int .u64 0]), 2, 16) := by kernel_rfl
  obtain ⟨i, hi, hz, hs, hb⟩ := info_parts h
  exact ⟨Tryz.underlying46, ⟨i, _, 16, hi, hz, hs, hb, rfl, by omega⟩, by omega⟩
def farW (N : Nat) (E : List Edg) (s t e : Nat) : Nat := gn (refL (srchOf N E (noO [(e : Int)])) s) t
def vitL (N : Nat) (E : List Edg) (s t : Nat) (l : List Nat) : List Itm := l.map fun e => (e, farW N E s t e)
theorem rd_one' (w : World) (x : Int) : Rd (w.alloc (.cells #[.int .i64 x] 3)) (some ⟨w.heap.size, 0, none⟩) 1 1 (([x] : List Int).map (.int .i64)) := Rd.made (w := w) (t := 3) (size := 1) (n := 1) (([x] : List Int).map (.int .i64)) rfl
theorem djOneE (N s t e : Nat) (A : Option Addr) (c b : Nat) (E : List Edg) (w : World) (h : Rd w A 3 E.length (esCells E)) (hr : rightF N E = 0) (hs : s < N) (ht : t < N) (hb : Rd w (some ⟨b, 0, none⟩) 1 1 (([(e : Int)] : List Int).map (.int .i64))) :
    Calls Tryz.prog 52 #[.agg #[.int .i64 (N : Int), .slice A E.length c], .int .i64 (s : Int), .int .i64 (t : Int), .agg #[.bool false, .slice none 0 0, .slice (some ⟨b, 0, none⟩) 1 1, .slice none 0 0, .int .u64 0]] w fun x w' =>
      (∃ d f : Int, x = .returned (.tuple #[.int .u64 d, .int .i64 f]) ∧ ((f = 0 ∧ d = (farW N E s t e : Int)) ∨ (f ≠ 0 ∧ farW N E s t e = farV))) ∧ Grows w w' := by
  have hok := noO_ok (ne := [(e : Int)]) hr hs (by simp)
  obtain ⟨xs, h1, h2, h3, h4, h5⟩ := walk_ref hok (fun i hi => noO_w hr i hi)
  have h0 : Rd w none 1 0 [] := ⟨by simp, fun h => absurd h (by simp)⟩
  have hw0 : Rd w none 1 0 (wv []) := ⟨by simp [wv], fun h => absurd h (by simp)⟩
  refine (djOne N s t A c E (noO [(e : Int)]) none (some ⟨b, 0, none⟩) none 0 1 0 xs w h h0 hb hw0 hok (dc_none hr hs) h1 ht).mono ?_
  rintro x w' ⟨hx, hg⟩
  refine ⟨?_, hg⟩
  have hf : farW N E s t e = gn (outL N xs) t := by unfold farW; rw [h4]
  rw [hf]
  rcases hx with ⟨f, hm, rfl⟩ | ⟨hm, rfl⟩
  · exact ⟨_, _, rfl, .inl ⟨rfl, by rw [outL_at h3 ht hm]⟩⟩
  · exact ⟨_, _, rfl, .inr ⟨by omega, outL_no ht hm⟩⟩
set_option maxRecDepth 20000 in
set_option maxHeartbeats 4000000 in
theorem bwRow1 (N s t e : Nat) (A : Option Addr) (c b3 b4 b5 : Nat) (E : List Edg) (w : World) (h : Rd w A 3 E.length (esCells E)) (hr : rightF N E = 0) (hs : s < N) (ht : t < N)
    (a3 : Arr w b3 24 [.int .i64 (N : Int), .slice A E.length c]) (a4 : Arr w b4 3 [.int .i64 (s : Int)]) (a5 : Arr w b5 3 [.int .i64 (t : Int)]) :
    Calls Tryz.prog 51 #[.int .i64 (e : Int), .pointer (some ⟨b3, 0, none⟩), .pointer (some ⟨b4, 0, none⟩), .pointer (some ⟨b5, 0, none⟩)] w fun x w' => x = .returned (.int .u64 (farW N E s t e : Int)) ∧ Grows w w' := by
  have C := hide (fun (W : World) (g : Grows w W) (b : Nat) (hb : Rd W (some ⟨b, 0, none⟩) 1 1 (([(e : Int)] : List Int).map (.int .i64))) => djOneE N s t e A c b E W (h.grows g) hr hs ht hb)
  clear h hr hs ht
  obtain ⟨q, hq⟩ : ∃ q : Int, (farW N E s t e : Int) = q := ⟨_, rfl⟩
  have HQ : Hid (farW N E s t e = farV → q = 4611686018427387904) := fun hh => by rw [← hq, hh]; unfold farV; rfl
  generalize hff : farW N E s t e = ff at *
  rw [hq] at C
  rw [hq]
  clear hff hq
  go_enter Tryz.func51, Tryz.ntmps51
  go_wp2_with (go_at_call 52; refine (C.out _ GG _ (rd_one' _ _)).mono ?_; rintro x w' ⟨⟨d, f, rfl, hx⟩, hg⟩; obtain ⟨y1, rfl⟩ := hg.later; have HX := hide hx; clear hx hg)
  · have hf : f ≠ 0 := by simpa using ‹(f != 0) = true›
    go_ret
    refine ⟨?_, GG⟩
    rcases HX.out with ⟨h1, _⟩ | ⟨_, h2⟩
    · exact absurd h1 hf
    · rw [HQ.out h2]; rfl
  · have hf : f = 0 := by simpa using ‹(f != 0) = false›
    go_ret
    refine ⟨?_, GG⟩
    rcases HX.out with ⟨_, h2⟩ | ⟨h1, _⟩
    · rw [h2]; rfl
    · exact absurd hf h1
theorem vitL_len (N : Nat) (E : List Edg) (s t : Nat) (l : List Nat) : (vitL N E s t l).length = l.length := by simp [vitL]
theorem vitL_next (N : Nat) (E : List Edg) (s t : Nat) {l : List Nat} {k : Nat} (hk : k < l.length) : vitL N E s t (l.take (k + 1)) = vitL N E s t (l.take k) ++ [(gn l k, farW N E s t (gn l k))] := by
  have e : gn l k = l[k] := by simp [gn, hk]
  unfold vitL
  rw [List.take_succ_eq_append_getElem hk, List.map_append, e]
  rfl
set_option maxRecDepth 40000 in
set_option maxHeartbeats 8000000 in
theorem bwRow (N s t : Nat) (A : Option Addr) (c : Nat) (E : List Edg) (l : List Nat) (f : Nat) (w : World) (h : Rd w A 3 E.length (esCells E)) (hr : rightF N E = 0) (hs : s < N) (ht : t < N) (hp : IsPath E (noO []) N s t l f 0) (hl : l.length ≤ 1000000) :
    Calls Tryz.prog 27 #[.agg #[.int .i64 (N : Int), .slice A E.length c], .int .i64 (s : Int), .int .i64 (t : Int)] w fun e w' => ∃ A' c', e = .returned (.tuple #[.slice A' l.length c', .int .i64 0]) ∧ Rd w' A' 2 l.length (its (vitL N E s t l)) ∧ Grows w w' := by
  obtain ⟨r1, r2, r3, r4, r5⟩ := right_in hr
  have h0 : Rd w none 1 0 [] := ⟨by simp, fun h => absurd h (by simp)⟩
  have hw0 : Rd w none 1 0 (wv []) := ⟨by simp [wv], fun h => absurd h (by simp)⟩
  have C1 := hide (fun (W : World) (g : Grows w W) => show Calls Tryz.prog 50 #[.agg #[.int .i64 (N : Int), .slice A E.length c], .int .i64 (s : Int), .int .i64 (t : Int), .agg #[.bool false, .slice none 0 0, .slice none 0 0, .slice none 0 0, .int .u64 0]] W fun e w' =>
      ∃ A' c', e = .returned (.tuple #[.agg #[.slice A' l.length c', .int .u64 (f : Int)], .int .i64 0]) ∧ Own w' W.heap.size 3 1 A' l.length c' (nv l) ∧ Grows W w' from
    caPath N s t A c E (noO []) none none none 0 0 0 l f 0 W (h.grows g) (h0.grows g) (h0.grows g) (hw0.grows g) (by omega) (by simp) hp)
  have C2 := hide (fun (e b3 b4 b5 : Nat) (W : World) (g : Grows w W) (a3 : Arr W b3 24 [.int .i64 (N : Int), .slice A E.length c]) (a4 : Arr W b4 3 [.int .i64 (s : Int)]) (a5 : Arr W b5 3 [.int .i64 (t : Int)]) => bwRow1 N s t e A c b3 b4 b5 E W (h.grows g) hr hs ht a3 a4 a5)
  clear h h0 hw0 hr hs ht hp r1 r2 r3 r4 r5
  go_enter Tryz.func27, Tryz.ntmps27
  go_upto_region 2 with (go_at_call 50; refine (C1.out _ GG).mono ?_; rintro e w' ⟨A1, c1, rfl, ho, hg⟩; obtain ⟨x1, rfl⟩ := hg.later; have HO := hide ho; clear hg ho)
  obtain ⟨W3, hW3⟩ : ∃ W, W = x1.now.alloc (.cells #[.slice A1 l.length c1, .int .u64 (f : Int)] 93) := ⟨_, rfl⟩
  have hg3 : Grows x1.now W3 := by rw [hW3]; exact (Grows.refl _).new _
  have hgw : Grows w W3 := (show Grows w x1.now from GG).trans hg3
  have a3 : Arr W3 w.heap.size 24 [.int .i64 (N : Int), .slice A E.length c] := (Arr.make w _ _).grow ((show Grows (w.alloc (.cells #[.int .i64 (N : Int), .slice A E.length c] 24)) x1.now from GG).trans hg3)
  have a4 : Arr W3 (w.heap.size + 1) 3 [.int .i64 (s : Int)] := by
    have := (Arr.make (w.alloc (.cells #[.int .i64 (N : Int), .slice A E.length c] 24)) [.int .i64 (s : Int)] 3).grow ((show Grows _ x1.now from GG).trans hg3)
    simpa using this
  have a5 : Arr W3 (w.heap.size + 1 + 1) 3 [.int .i64 (t : Int)] := by
    have := (Arr.make ((w.alloc (.cells #[.int .i64 (N : Int), .slice A E.length c] 24)).alloc (.cells #[.int .i64 (s : Int)] 3)) [.int .i64 (t : Int)] 3).grow ((show Grows _ x1.now from GG).trans hg3)
    simpa using this
  have a8 : Arr W3 x1.now.heap.size 93 [.slice A1 l.length c1, .int .u64 (f : Int)] := by rw [hW3]; exact Arr.make _ _ _
  have HO := hide (HO.out.grows hg3)
  rw [← hW3]
  clear hW3 hg3 C1
  generalize x1.now.heap.size = b8 at *
  generalize w.heap.size + 1 + 1 = b5 at *
  generalize w.heap.size + 1 = b4 at *
  generalize hb3 : w.heap.size = b3 at *
  replace hb3 := hide hb3
  have HB := hide (show ∃ g, 0 < l.length → A1 = some ⟨g, 0, none⟩ ∧ ∀ j, j < l.length → Mine W3 ⟨g, j, none⟩ (.int .i64 (gn l j : Int)) from by
    by_cases hz : 0 < l.length
    · obtain ⟨g, hA, _, hc⟩ := HO.out.at hz
      exact ⟨g, fun _ => ⟨hA, fun j hj => hc j _ (nv_at hj)⟩⟩
    · exact ⟨0, fun h => absurd h hz⟩)
  clear HO
  go_wp2_with fail
  go_loopw [27, 6] (fun i u wr => ∃ k : Nat, k ≤ l.length ∧ i = .int .i64 (k : Int) ∧ ∃ y : Later W3, wr = y.now ∧ ∃ A2 c2, u = .slice A2 k c2 ∧ Own y.now W3.heap.size 53 2 A2 k c2 (its (vitL N E s t (l.take k)))) (fun i _ _ => l.length - (Go.RowKit.intOf i).toNat)
  case atStart => exact ⟨0, by omega, by go_num, ⟨_, Grows.refl _⟩, rfl, none, 0, rfl, by simpa [vitL, its] using Own.nil _ _ _ _⟩
  case round =>
    obtain ⟨k, hk, rfl, y, rfl, A2, c2, rfl, hown⟩ := hrel
    have HO2 := hide hown
    clear hown
    by_cases hlt : k < l.length
    · obtain ⟨g, hg0⟩ := HB.out
      obtain ⟨rfl, hc⟩ := hg0 (by omega)
      have m1 := hc k hlt
      have HNX := hide (vitL_next N E s t hlt)
      have C2k := hide (C2.out (gn l k))
      clear hc hg0
      generalize farW N E s t (gn l k) = fw at *
      generalize gn l k = ek at *
      go_wp2_with (first
        | (go_at_call 51; refine (C2k.out b3 b4 b5 _ (hgw.trans GG) (a3.grow GG) (a4.grow GG) (a5.grow GG)).mono ?_; rintro e w' ⟨rfl, hg⟩; obtain ⟨y1, rfl⟩ := hg.later; clear hg)
        | (at_builtin; refine wp_app2M elemVital rfl _ _ rfl W3 GG k c2 A2 _ rfl (HO2.out.grows GG) _ _ _ _ rfl inferInstance inferInstance rfl rfl (by omega) ?_; intro A6 c6 y6 hown6 hgr6; have HO6 := hide hown6; clear hown6 hgr6))
      go_roundw
      case measure => simp [Go.RowKit.intOf]; omega
      case rel => exact ⟨k + 1, by omega, by go_num, y6, rfl, A6, c6, rfl, by rw [HNX.out, its_app]; exact HO6.out⟩
    · obtain rfl : l.length = k := by omega
      rw [List.take_length] at HO2
      go_wp2_with fail
      refine bodyPost_ret (v := .tuple #[.slice A2 l.length c2, .int .i64 0]) (by simp (maxDischargeDepth := 6) [results, Tryz.results27, go_sem, *]) rfl ⟨A2, c2, rfl, HO2.out.rd, hgw.trans y.grows⟩
set_option maxRecDepth 20000 in
set_option maxHeartbeats 4000000 in
theorem bwRowNo (N s t : Int) (A : Option Addr) (c : Nat) (E : List Edg) (l : List Nat) (f : Nat) (r : Int) (w : World) (h : Rd w A 3 E.length (esCells E)) (hn : E.length ≤ 1000000) (hp : IsPath E (noO []) N s t l f r) (hr : r ≠ 0) :
    Calls Tryz.prog 27 #[.agg #[.int .i64 N, .slice A E.length c], .int .i64 s, .int .i64 t] w fun e w' => e = .returned (.tuple #[.slice none 0 0, .int .i64 r]) ∧ Grows w w' := by
  have h0 : Rd w none 1 0 [] := ⟨by simp, fun h => absurd h (by simp)⟩
  have hw0 : Rd w none 1 0 (wv []) := ⟨by simp [wv], fun h => absurd h (by simp)⟩
  have C1 := hide (fun (W : World) (g : Grows w W) => show Calls Tryz.prog 50 #[.agg #[.int .i64 N, .slice A E.length c], .int .i64 s, .int .i64 t, .agg #[.bool false, .slice none 0 0, .slice none 0 0, .slice none 0 0, .int .u64 0]] W fun e w' =>
      ∃ A' c', e = .returned (.tuple #[.agg #[.slice A' l.length c', .int .u64 (f : Int)], .int .i64 r]) ∧ Own w' W.heap.size 3 1 A' l.length c' (nv l) ∧ Grows W w' from
    caPath N s t A c E (noO []) none none none 0 0 0 l f r W (h.grows g) (h0.grows g) (h0.grows g) (hw0.grows g) hn (by simp) hp)
  have hb : (r != 0) = true := bne_iff_ne.2 hr
  clear h h0 hw0 hp hr
  go_enter Tryz.func27, Tryz.ntmps27
  go_wp2_with (go_at_call 50; refine (C1.out _ GG).mono ?_; rintro e w' ⟨A1, c1, rfl, ho, hg⟩; obtain ⟨x1, rfl⟩ := hg.later; clear hg ho)
  refine bodyPost_ret (v := .tuple #[.slice none 0 0, .int .i64 r]) (by simp (maxDischargeDepth := 6) [results, Tryz.results27, go_sem, *]) rfl ⟨rfl, GG⟩
end Go.Proofs.YtomednfddpggaaaGreat

/- Contracts: which edge is the worst to miss, by the program. -/
namespace Go.Proofs.YtomednfddpggaaaGreat
open Go Go.RowKit
attribute [local go_sem] Oper.semAt_some
def cmpI (x y : Int) : Int := if x < y then -1 else if y < x then 1 else 0
theorem cmpI_pos (x y : Int) : 0 < cmpI x y ↔ y < x := by
  unfold cmpI
  by_cases h1 : x < y
  · rw [if_pos h1]; omega
  · rw [if_neg h1]
    by_cases h2 : y < x
    · rw [if_pos h2]; omega
    · rw [if_neg h2]; omega
set_option maxHeartbeats 2000000 in
theorem cmpCompareU (x y : Int) (w : World) : Calls Tryz.prog 56 #[.int .u64 x, .int .u64 y] w fun e w' => e = .returned (.int .i64 (cmpI x y)) ∧ Grows w w' := by
  have h1 : (x != x) = false := by simp
  have h2 : (y != y) = false := by simp
  have HC := hide (show cmpI x y = if x < y then -1 else if y < x then 1 else 0 from rfl)
  generalize cmpI x y = r at *
  go_enter Tryz.func56, Tryz.ntmps56
  go_wp2
  · obtain rfl : r = -1 := by rw [HC.out, if_pos (by assumption)]
    go_ret
    exact ⟨rfl, Grows.refl _⟩
  · obtain rfl : r = 1 := by rw [HC.out, if_neg (by omega), if_pos (by assumption)]
    go_ret
    exact ⟨rfl, Grows.refl _⟩
  · obtain rfl : r = 0 := by rw [HC.out, if_neg (by omega), if_neg (by omega)]
    go_ret
    exact ⟨rfl, Grows.refl _⟩
set_option maxHeartbeats 2000000 in
theorem bwWorst1 (a b : Int) (x y : Int) (w : World) : Calls Tryz.prog 55 #[.agg #[.int .i64 a, .int .u64 x], .agg #[.int .i64 b, .int .u64 y]] w fun e w' => e = .returned (.int .i64 (cmpI x y)) ∧ Grows w w' := by
  have C := hide (fun (W : World) => cmpCompareU x y W)
  generalize cmpI x y = r at *
  go_enter Tryz.func55, Tryz.ntmps55
  go_wp2_with (go_at_call 56; refine (C.out _).mono ?_; rintro e w' ⟨rfl, hg⟩; obtain ⟨x1, rfl⟩ := hg.later; clear hg)
  go_ret
  exact ⟨rfl, GG⟩
def mxI (L : List Itm) : Nat → Itm
  | 0 => gi2 L 0
  | k + 1 => if (mxI L k).2 < (gi2 L (k + 1)).2 then gi2 L (k + 1) else mxI L k
theorem Rd.vit {w : World} {A : Option Addr} {n : Nat} {L : List Itm} (h : Rd w A 2 n (its L)) (hl : L.length = n) (hn : 0 < n) : ∃ b off, A = some ⟨b, off, none⟩ ∧ ∀ k, k < n → Holds w ⟨b, off + k * 2, none⟩ (.int .i64 ((gi2 L k).1 : Int)) ∧ Holds w ⟨b, off + k * 2 + 1, none⟩ (.int .u64 ((gi2 L k).2 : Int)) := by
  obtain ⟨b, off, e, hc⟩ := h.2 hn (by omega)
  refine ⟨b, off, e, fun k hk => ⟨⟨?_⟩, ⟨?_⟩⟩⟩
  · have := hc (k * 2 + 0) (.int .i64 ((gi2 L k).1 : Int)) (by rw [its_at L k 0 (by omega) (by omega)]; rfl)
    simpa using this
  · have := hc (k * 2 + 1) (.int .u64 ((gi2 L k).2 : Int)) (by rw [its_at L k 1 (by omega) (by omega)]; rfl)
    simpa [Nat.add_assoc] using this
def MxAt (w : World) (b4 b5 : Nat) (p : Itm) (wr : World) : Prop := ∃ y : Later w, wr = y.now ∧ Arr y.now b4 53 [.int .i64 0, .int .u64 0] ∧ Arr y.now b5 53 [.int .i64 (p.1 : Int), .int .u64 (p.2 : Int)]
set_option maxRecDepth 40000 in
set_option maxHeartbeats 8000000 in
theorem maxFuncV (A : Option Addr) (n c : Nat) (L : List Itm) (w : World) (h : Rd w A 2 n (its L)) (hl : L.length = n) (hn : 0 < n) (hn2 : n ≤ 1000000) :
    Calls Tryz.prog 54 #[.slice A n c, .func (.func 55) #[] #[]] w fun e w' => e = .returned (.agg #[.int .i64 ((mxI L (n - 1)).1 : Int), .int .u64 ((mxI L (n - 1)).2 : Int)]) ∧ Grows w w' := by
  obtain ⟨bv, ov, rfl, hc⟩ := h.vit hl hn
  have CW := hide (fun (a b x y : Int) (W : World) => bwWorst1 a b x y W)
  have HC := hide hc
  obtain ⟨c0, c0'⟩ := hc 0 hn
  have HM0 := hide (show mxI L 0 = gi2 L 0 from rfl)
  have HMS := hide (fun k => show mxI L (k + 1) = if (mxI L k).2 < (gi2 L (k + 1)).2 then gi2 L (k + 1) else mxI L k from rfl)
  have hn1 : ¬ ((n : Int) < 1) := by omega
  have hd1 : decide ((n : Int) < 1) = false := decide_eq_false hn1
  simp only [Nat.zero_mul, Nat.add_zero] at c0 c0'
  clear h hc hn1
  go_enter Tryz.func54, Tryz.ntmps54
  go_upto_region 4 with fail
  have a4 : Arr ((w.alloc (.cells #[.int .i64 0, .int .u64 0] 53)).alloc (.cells #[.int .i64 ((gi2 L 0).1 : Int), .int .u64 ((gi2 L 0).2 : Int)] 53)) w.heap.size 53 [.int .i64 0, .int .u64 0] := (Arr.make w _ _).grow ((Grows.refl _).new _)
  have a5 : Arr ((w.alloc (.cells #[.int .i64 0, .int .u64 0] 53)).alloc (.cells #[.int .i64 ((gi2 L 0).1 : Int), .int .u64 ((gi2 L 0).2 : Int)] 53)) (w.heap.size + 1) 53 [.int .i64 ((gi2 L 0).1 : Int), .int .u64 ((gi2 L 0).2 : Int)] := by
    have := Arr.make (w.alloc (.cells #[.int .i64 0, .int .u64 0] 53)) [.int .i64 ((gi2 L 0).1 : Int), .int .u64 ((gi2 L 0).2 : Int)] 53
    simpa using this
  have HY := hide (show Grows w ((w.alloc (.cells #[.int .i64 0, .int .u64 0] 53)).alloc (.cells #[.int .i64 ((gi2 L 0).1 : Int), .int .u64 ((gi2 L 0).2 : Int)] 53)) from GG)
  generalize (w.alloc (.cells #[.int .i64 0, .int .u64 0] 53)).alloc (.cells #[.int .i64 ((gi2 L 0).1 : Int), .int .u64 ((gi2 L 0).2 : Int)] 53) = W4 at *
  obtain ⟨y0, rfl⟩ := HY.out.later
  rw [← HM0.out] at a5
  generalize hb4 : w.heap.size = b4 at *
  have hne : b4 ≠ b4 + 1 := by omega
  generalize hb5 : b4 + 1 = b5 at *
  have HB := hide (show w.heap.size ≤ b4 ∧ w.heap.size ≤ b5 from by omega)
  clear hb4 hb5 c0 c0' HM0 HY
  go_wp2_with fail
  go_loopw [6] (fun i wr => ∃ k : Nat, 1 ≤ k ∧ k ≤ n ∧ i = .int .i64 (k : Int) ∧ MxAt w b4 b5 (mxI L (k - 1)) wr) (fun i _ => n - (Go.RowKit.intOf i).toNat)
  case atStart => exact ⟨1, by omega, by omega, by go_num, y0, rfl, a4, a5⟩
  case round =>
    obtain ⟨k, hk1, hk, rfl, y, rfl, z4, z5⟩ := hrel
    clear a4 a5
    have m0 := z5.mine 0 rfl
    have m1 := z5.mine 1 rfl
    by_cases hlt : k < n
    · obtain ⟨c1, c2⟩ := HC.out k hlt
      have HS := hide (HMS.out (k - 1))
      rw [show k - 1 + 1 = k from by omega] at HS
      generalize gi2 L k = q at *
      generalize hp : mxI L (k - 1) = p at *
      have CWk := hide (fun (W : World) => CW.out (q.1 : Int) (p.1 : Int) (q.2 : Int) (p.2 : Int) W)
      have HR := hide (show 0 < cmpI (q.2 : Int) (p.2 : Int) ↔ p.2 < q.2 from (cmpI_pos _ _).trans (by omega))
      generalize cmpI (q.2 : Int) (p.2 : Int) = r at *
      go_wp2_with fail
      ((first | refine wp_region_gen (by kernel_rfl) (by kernel_rfl) ?_); (repeat' (first | (refine gLex_val0 rfl (by kernel_rfl) (fun K hK => ?_); (go_simp; (try (simp only [↓IntWalk.iteOmega]; try go_simp)); (try simp (disch := omega) only [IntWalk.i64_in]); (try simp (disch := omega) only [IntWalk.u64_in]); first | (refine hK _ ?_; clear hK K) | (apply Exists.intro; refine ⟨fun x => ?_, hK _ ?_⟩; (first | (go_at_call 55; exact CWk.out _)); clear hK K))) | (refine gLex_undef rfl rfl rfl (by kernel_rfl) (fun K hK => ?_); go_simp; refine hK _ ?_; clear hK K) | (refine gLex_ask rfl rfl rfl ?_; first | (apply gAsk_yes; kernel_rfl; intro K hK; (go_simp; (try (simp only [↓IntWalk.iteOmega]; try go_simp)); (try simp (disch := omega) only [IntWalk.i64_in]); (try simp (disch := omega) only [IntWalk.u64_in]); first | (refine hK _ ?_; clear hK K) | (apply Exists.intro; refine ⟨fun x => ?_, hK _ ?_⟩; (first | (go_at_call 55; exact CWk.out _)); clear hK K))) | ((first | apply gAsk_no1 | apply gAsk_no2); kernel_rfl; intro K hK; simp [go_sem]; refine hK _ ?_; clear hK K) | (apply gAsk_part; kernel_rfl; all_goals (intro h K hK; (try simp only [Bool.not_true] at h); (try simp only [Bool.not_false] at h); (try simp only [decide_eq_true_eq] at h); (try simp only [decide_eq_false_iff_not] at h); first | (exfalso; first | contradiction | omega) | (go_simp; (try (simp only [↓IntWalk.iteOmega]; try go_simp)); (try simp (disch := omega) only [IntWalk.i64_in]); (try simp (disch := omega) only [IntWalk.u64_in]); first | (refine hK _ ?_; clear hK K) | (apply Exists.intro; refine ⟨fun x => ?_, hK _ ?_⟩; (first | (go_at_call 55; exact CWk.out _)); clear hK K))))))); all_goals ((apply gLex_end); intro x))
      go_wp2_with fail
      · have hlt2 : p.2 < q.2 := HR.out.1 (by assumption)
        have HS2 := HS.out
        rw [if_pos hlt2] at HS2
        refine ⟨⟨k + 1, by omega, by omega, by go_num, ?_⟩, by simp [Go.RowKit.intOf]; omega⟩
        have hg : Grows w ((x.now.setCell ⟨b5, 0, none⟩ (.int .i64 (q.1 : Int))).setCell ⟨b5, 1, none⟩ (.int .u64 (q.2 : Int))) := ((y.grows.trans x.grows).set (p := ⟨b5, 0, none⟩) HB.out.2 _).set (p := ⟨b5, 1, none⟩) HB.out.2 _
        obtain ⟨y9, hy9⟩ := hg.later
        refine ⟨y9, hy9.symm ▸ rfl, ?_, ?_⟩
        · rw [← hy9]
          exact ((z4.grow x.grows).other (p := ⟨b5, 0, none⟩) hne.symm _).other (p := ⟨b5, 1, none⟩) hne.symm _
        · rw [← hy9, show k + 1 - 1 = k from by omega, HS2]
          exact ((z5.grow x.grows).set 0 _).set 1 _
      · have hlt2 : ¬ p.2 < q.2 := fun hh => absurd (HR.out.2 hh) (by omega)
        have HS2 := HS.out
        rw [if_neg hlt2] at HS2
        refine ⟨⟨k + 1, by omega, by omega, by go_num, ?_⟩, by simp [Go.RowKit.intOf]; omega⟩
        rw [show k + 1 - 1 = k from by omega, HS2]
        obtain ⟨y9, hy9⟩ := (y.grows.trans x.grows).later
        refine ⟨y9, hy9, ?_, ?_⟩
        · rw [← hy9]
          exact z4.grow x.grows
        · rw [← hy9]
          exact z5.grow x.grows
    · obtain rfl : k = n := by omega
      have hg : Grows w ((y.now.setCell ⟨b4, 0, none⟩ (.int .i64 ((mxI L (k - 1)).1 : Int))).setCell ⟨b4, 1, none⟩ (.int .u64 ((mxI L (k - 1)).2 : Int))) := (y.grows.set (p := ⟨b4, 0, none⟩) HB.out.1 _).set (p := ⟨b4, 1, none⟩) HB.out.1 _
      have z6 : Arr ((y.now.setCell ⟨b4, 0, none⟩ (.int .i64 ((mxI L (k - 1)).1 : Int))).setCell ⟨b4, 1, none⟩ (.int .u64 ((mxI L (k - 1)).2 : Int))) b4 53 [.int .i64 ((mxI L (k - 1)).1 : Int), .int .u64 ((mxI L (k - 1)).2 : Int)] := (z4.set 0 _).set 1 _
      have n0 := z4.mine 0 rfl
      have n1 := z4.mine 1 rfl
      go_wp2_with fail
      have t0 := z6.mine 0 rfl
      have t1 := z6.mine 1 rfl
      generalize (y.now.setCell ⟨b4, 0, none⟩ (.int .i64 ((mxI L (k - 1)).1 : Int))).setCell ⟨b4, 1, none⟩ (.int .u64 ((mxI L (k - 1)).2 : Int)) = W9 at *
      refine bodyPost_ret (v := .agg #[.int .i64 ((mxI L (k - 1)).1 : Int), .int .u64 ((mxI L (k - 1)).2 : Int)]) (by simp (maxDischargeDepth := 6) [results, Tryz.results54, go_sem, *]) rfl ⟨rfl, hg⟩
end Go.Proofs.YtomednfddpggaaaGreat

/- Contracts: the worst edge to miss, by the program; how far without each edge, by the answer. -/
namespace Go.Proofs.YtomednfddpggaaaGreat
open Go Go.RowKit
attribute [local go_sem] Oper.semAt_some
def wstI (L : List Itm) : Itm := if L.length = 0 then (0, 0) else mxI L (L.length - 1)
def wstF (L : List Itm) : Int := if L.length = 0 then 9 else 0
set_option maxRecDepth 40000 in
set_option maxHeartbeats 8000000 in
theorem bwWorst (N s t : Nat) (A : Option Addr) (c : Nat) (E : List Edg) (l : List Nat) (f : Nat) (w : World) (h : Rd w A 3 E.length (esCells E)) (hr : rightF N E = 0) (hs : s < N) (ht : t < N) (hp : IsPath E (noO []) N s t l f 0) (hl : l.length ≤ 1000000) :
    Calls Tryz.prog 29 #[.agg #[.int .i64 (N : Int), .slice A E.length c], .int .i64 (s : Int), .int .i64 (t : Int)] w fun e w' => e = .returned (.tuple #[.agg #[.int .i64 ((wstI (vitL N E s t l)).1 : Int), .int .u64 ((wstI (vitL N E s t l)).2 : Int)], .int .i64 (wstF (vitL N E s t l))]) ∧ Grows w w' := by
  have CR := hide (fun (W : World) (g : Grows w W) => bwRow N s t A c E l f W (h.grows g) hr hs ht hp hl)
  have HL := hide (vitL_len N E s t l)
  generalize vitL N E s t l = L at *
  have CM := hide (fun (A' : Option Addr) (c' : Nat) (W : World) (hh : Rd W A' 2 l.length (its L)) (hn : 0 < l.length) => maxFuncV A' l.length c' L W hh HL.out hn hl)
  clear h hr hs ht hp
  have HA := hide (show Arr ((w.alloc (.cells #[.int .i64 (N : Int), .slice A E.length c] 24)).alloc (.cells #[.int .i64 0, .int .u64 0] 53)) (w.heap.size + 1) 53 [.int .i64 0, .int .u64 0] from by
    have := Arr.make (w.alloc (.cells #[.int .i64 (N : Int), .slice A E.length c] 24)) [.int .i64 0, .int .u64 0] 53
    simpa using this)
  by_cases hz : l.length = 0
  · have e1 : wstI L = (0, 0) := by unfold wstI; rw [HL.out, if_pos hz]
    have e2 : wstF L = 9 := by unfold wstF; rw [HL.out, if_pos hz]
    rw [e1, e2]
    rw [hz] at CR
    clear CM e1 e2
    go_enter Tryz.func29, Tryz.ntmps29
    go_wp2_with (go_at_call 27; refine (CR.out _ GG).mono ?_; rintro e w' ⟨A1, c1, rfl, hr1, hg⟩; obtain ⟨x1, rfl⟩ := hg.later; clear hg hr1)
    have hb : w.heap.size ≤ w.heap.size + 1 := by omega
    have a6 : Arr (((x1.now.setCell ⟨w.heap.size + 1, 0, none⟩ (.int .i64 0))).setCell ⟨w.heap.size + 1, 1, none⟩ (.int .u64 0)) (w.heap.size + 1) 53 [.int .i64 0, .int .u64 0] := ((HA.out.grow x1.grows).set 0 _).set 1 _
    have t0 := a6.mine 0 rfl
    have t1 := a6.mine 1 rfl
    have hg : Grows w (((x1.now.setCell ⟨w.heap.size + 1, 0, none⟩ (.int .i64 0))).setCell ⟨w.heap.size + 1, 1, none⟩ (.int .u64 0)) := ((show Grows w x1.now from GG).set (p := ⟨w.heap.size + 1, 0, none⟩) hb _).set (p := ⟨w.heap.size + 1, 1, none⟩) hb _
    generalize ((x1.now.setCell ⟨w.heap.size + 1, 0, none⟩ (.int .i64 0))).setCell ⟨w.heap.size + 1, 1, none⟩ (.int .u64 0) = W9 at *
    generalize w.heap.size + 1 = b6 at *
    refine bodyPost_ret (v := .tuple #[.agg #[.int .i64 0, .int .u64 0], .int .i64 9]) (by simp (maxDischargeDepth := 6) [results, Tryz.results29, go_sem, *]) rfl ⟨rfl, hg⟩
  · have e1 : wstI L = mxI L (l.length - 1) := by unfold wstI; rw [HL.out, if_neg hz]
    have e2 : wstF L = 0 := by unfold wstF; rw [HL.out, if_neg hz]
    rw [e1, e2]
    clear e1 e2
    have hn : 0 < l.length := by omega
    go_enter Tryz.func29, Tryz.ntmps29
    go_wp2_with (first | (go_at_call 27; refine (CR.out _ GG).mono ?_; rintro e w' ⟨A1, c1, rfl, hr1, hg⟩; obtain ⟨x1, rfl⟩ := hg.later; have HR1 := hide hr1; clear hg hr1) | (go_at_call 54; refine (CM.out A1 c1 _ (HR1.out.grows GG) hn).mono ?_; rintro e w' ⟨rfl, hg⟩; obtain ⟨x2, rfl⟩ := hg.later; clear hg))
    have hb : w.heap.size ≤ w.heap.size + 1 := by omega
    have a6 : Arr (((x2.now.setCell ⟨w.heap.size + 1, 0, none⟩ (.int .i64 ((mxI L (l.length - 1)).1 : Int)))).setCell ⟨w.heap.size + 1, 1, none⟩ (.int .u64 ((mxI L (l.length - 1)).2 : Int))) (w.heap.size + 1) 53 [.int .i64 ((mxI L (l.length - 1)).1 : Int), .int .u64 ((mxI L (l.length - 1)).2 : Int)] := ((HA.out.grow (x1.grows.trans x2.grows)).set 0 _).set 1 _
    have t0 := a6.mine 0 rfl
    have t1 := a6.mine 1 rfl
    have hg : Grows w (((x2.now.setCell ⟨w.heap.size + 1, 0, none⟩ (.int .i64 ((mxI L (l.length - 1)).1 : Int)))).setCell ⟨w.heap.size + 1, 1, none⟩ (.int .u64 ((mxI L (l.length - 1)).2 : Int))) := ((show Grows w x2.now from GG).set (p := ⟨w.heap.size + 1, 0, none⟩) hb _).set (p := ⟨w.heap.size + 1, 1, none⟩) hb _
    generalize ((x2.now.setCell ⟨w.heap.size + 1, 0, none⟩ (.int .i64 ((mxI L (l.length - 1)).1 : Int)))).setCell ⟨w.heap.size + 1, 1, none⟩ (.int .u64 ((mxI L (l.length - 1)).2 : Int)) = W9 at *
    generalize w.heap.size + 1 = b6 at *
    refine bodyPost_ret (v := .tuple #[.agg #[.int .i64 ((mxI L (l.length - 1)).1 : Int), .int .u64 ((mxI L (l.length - 1)).2 : Int)], .int .i64 0]) (by simp (maxDischargeDepth := 6) [results, Tryz.results29, go_sem, *]) rfl ⟨rfl, hg⟩
set_option maxRecDepth 40000 in
set_option maxHeartbeats 8000000 in
theorem bwWorstNo (N s t : Int) (A : Option Addr) (c : Nat) (E : List Edg) (l : List Nat) (f : Nat) (r : Int) (w : World) (h : Rd w A 3 E.length (esCells E)) (hn : E.length ≤ 1000000) (hp : IsPath E (noO []) N s t l f r) (hr : r ≠ 0) :
    Calls Tryz.prog 29 #[.agg #[.int .i64 N, .slice A E.length c], .int .i64 s, .int .i64 t] w fun e w' => e = .returned (.tuple #[.agg #[.int .i64 0, .int .u64 0], .int .i64 r]) ∧ Grows w w' := by
  have CR := hide (fun (W : World) (g : Grows w W) => bwRowNo N s t A c E l f r W (h.grows g) hn hp hr)
  have HA := hide (show Arr ((w.alloc (.cells #[.int .i64 N, .slice A E.length c] 24)).alloc (.cells #[.int .i64 0, .int .u64 0] 53)) (w.heap.size + 1) 53 [.int .i64 0, .int .u64 0] from by
    have := Arr.make (w.alloc (.cells #[.int .i64 N, .slice A E.length c] 24)) [.int .i64 0, .int .u64 0] 53
    simpa using this)
  have hb1 : (r != 0) = true := bne_iff_ne.2 hr
  clear h hn hp hr
  go_enter Tryz.func29, Tryz.ntmps29
  go_wp2_with (go_at_call 27; refine (CR.out _ GG).mono ?_; rintro e w' ⟨rfl, hg⟩; obtain ⟨x1, rfl⟩ := hg.later; clear hg)
  have hb : w.heap.size ≤ w.heap.size + 1 := by omega
  have a6 : Arr (((x1.now.setCell ⟨w.heap.size + 1, 0, none⟩ (.int .i64 0))).setCell ⟨w.heap.size + 1, 1, none⟩ (.int .u64 0)) (w.heap.size + 1) 53 [.int .i64 0, .int .u64 0] := ((HA.out.grow x1.grows).set 0 _).set 1 _
  have t0 := a6.mine 0 rfl
  have t1 := a6.mine 1 rfl
  have hg : Grows w (((x1.now.setCell ⟨w.heap.size + 1, 0, none⟩ (.int .i64 0))).setCell ⟨w.heap.size + 1, 1, none⟩ (.int .u64 0)) := ((show Grows w x1.now from GG).set (p := ⟨w.heap.size + 1, 0, none⟩) hb _).set (p := ⟨w.heap.size + 1, 1, none⟩) hb _
  generalize ((x1.now.setCell ⟨w.heap.size + 1, 0, none⟩ (.int .i64 0))).setCell ⟨w.heap.size + 1, 1, none⟩ (.int .u64 0) = W9 at *
  generalize w.heap.size + 1 = b6 at *
  refine bodyPost_ret (v := .tuple #[.agg #[.int .i64 0, .int .u64 0], .int .i64 r]) (by simp (maxDischargeDepth := 6) [results, Tryz.results29, go_sem, *]) rfl ⟨rfl, hg⟩
end Go.Proofs.YtomednfddpggaaaGreat

/- Regions that draw their order: an operation that reads one value which hangs on the world, and leaves a value that is known; the end where such values are left. -/
namespace Go.Proofs.YtomednfddpggaaaGreat
open Go Go.RowKit
section
variable {P : Program} {w0 : World} {ops : Array Oper} {Q : Act → Env → Prop} {a : Act} {G : Env} {o : Oper} {rest : List Oper}
theorem dep_exec {a' : Act} {t0 : Tmp} {v : Value} (h5 : ∀ cs b, o.op ≠ .select cs b) (ht0 : t0 < a.tmps.size) (hv : a'.tmps[t0]? = some v) (h : ∀ t ∈ o.looksAt ops, t = t0 ∨ a'.tmps[t]? = a.tmps[t]?) : execOp a'.eval o = execOp (a.put (some t0) v).eval o := by
  refine execOp_congr o h5 fun x hx => ?_
  cases x with
  | tmp t =>
    have ht : t ∈ o.looksAt ops := List.mem_append_left _ (List.mem_filterMap.2 ⟨.tmp t, by simpa using hx, rfl⟩)
    have h' : a'.tmps[t]? = (a.put (some t0) v).tmps[t]? := by
      by_cases e : t = t0
      · subst e
        rw [hv]
        simp [Act.put, ht0]
      · rw [(h t ht).resolve_left e]
        simp [Act.put, Array.getElem?_setIfInBounds_ne (Ne.symm e)]
    simp only [Act.eval, Array.getD_eq_getD_getElem?, h']
  | _ => rfl
theorem gLex_depV {t0 : Tmp} {p0 : Pr} (hw : Region.wanted o (yielded ops a.tmps) = true) (hp : depB ops o G t0 = true) (h0 : G t0 = some p0) (ht0 : t0 < a.tmps.size) (v : Value)
    (hr : ∀ (x : Later w0) (u : Value), p0 u x.now → runsTo P (fun u' w' => Grows x.now w' ∧ u' = v) ((execOp (a.put (some t0) u).eval o).run P x.now))
    (h : gLex P ops w0 Q rest (a.put o.dst v) G) : gLex P ops w0 Q (o :: rest) a G := by
  obtain ⟨h1, h2, h3, h4, h5⟩ := dep_spec hp
  refine ⟨.inl v, ⟨h1, h2, .inl ⟨hw, trivial, trivial, fun w hw a' ha' => ?_⟩⟩, ?_⟩
  · have hv := ha' t0 h4
    unfold relAt at hv
    rw [h0] at hv
    obtain ⟨u, hv, hpv⟩ := hv
    rw [dep_exec h5 ht0 hv (fun t ht => (h3 t ht).imp id (fun e => by
      have h6 := ha' t ht
      unfold relAt at h6
      rw [e] at h6
      exact h6))]
    exact hr ⟨w, hw⟩ u hpv
  · have : putG G o.dst (.inl v) = G := by cases o.dst <;> rfl
    rw [this]
    exact h
def AtA (Q : Exit → Act → World → Prop) (a : Act) (G : Env) (w' : World) : Prop := ∀ a', Conc G a a' w' → Q .normal a' w'
theorem AtA.pop {Q : Exit → Act → World → Prop} {w' : World} {t : Tmp} {p : Pr} (hG : G t = none) (ht : t < a.tmps.size) (h : ∀ v, p v w' → AtA Q (a.put (some t) v) G w') : AtA Q a (G.upd t p) w' := fun a' hc => by
  obtain ⟨v, hv⟩ := conc_upd hc ht
  rcases hv with ⟨hp, hc2⟩ | hne
  · exact h v hp a' hc2
  · exact absurd hG hne
theorem AtA.base {Q : Exit → Act → World → Prop} {w' : World} (h : Q .normal a w') : AtA Q a Env.no w' := fun a' hc => by rw [conc_no hc]; exact h
theorem gLex_endA {Q : Exit → Act → World → Prop} (h : ∀ x : Later w0, AtA Q a G x.now) : gLex P ops w0 (fun a G => ∀ w', Grows w0 w' → ∀ a', Conc G a a' w' → Q .normal a' w') [] a G := fun w' hw a' hc => h ⟨w', hw⟩ a' hc
end
end Go.Proofs.YtomednfddpggaaaGreat

/- Contracts: how far it is without each edge of a shortest way, by the document's answer. -/
namespace Go.Proofs.YtomednfddpggaaaGreat
open Go Go.RowKit
attribute [local go_sem] Oper.semAt_some
theorem elemRVital : Elem 49 56 2 := by
  have h : (Tryz.prog.info? 56).map (fun i => (i.zero, i.size, i.bytes)) = some (some (.agg #[.int .i64 0, .int .u64 0]), 2, 16) := by kernel_rfl
  obtain ⟨i, hi, hz, hs, hb⟩ := info_parts h
  exact ⟨Tryz.underlying49, ⟨i, _, 16, hi, hz, hs, hb, rfl, by omega⟩, by omega⟩
section
variable {P : Program} {w0 : World}
def AtR (P : Program) (ops : Array Oper) (Q : Exit → Act → World → Prop) (tail : List Oper) (a : Act) (G : Env) (w' : World) : Prop := ∀ a', Conc G a a' w' → wpList P ops Q tail a' w'
theorem AtR.pop {ops : Array Oper} {Q : Exit → Act → World → Prop} {tail : List Oper} {a : Act} {G : Env} {w' : World} {t : Tmp} {p : Pr} (hG : G t = none) (ht : t < a.tmps.size)
    (h : ∀ v, p v w' → AtR P ops Q tail (a.put (some t) v) G w') : AtR P ops Q tail a (G.upd t p) w' := fun a' hc => by
  obtain ⟨v, hv⟩ := conc_upd hc ht
  rcases hv with ⟨hp, hc2⟩ | hne
  · exact h v hp a' hc2
  · exact absurd hG hne
theorem AtR.base {ops : Array Oper} {Q : Exit → Act → World → Prop} {tail : List Oper} {a : Act} {w' : World} (h : wpList P ops Q tail a w') : AtR P ops Q tail a Env.no w' := fun a' hc => by rw [conc_no hc]; exact h
theorem gLex_endR {ops : Array Oper} {Q : Exit → Act → World → Prop} {tail : List Oper} {a : Act} {G : Env} (h : ∀ x : Later w0, AtR P ops Q tail a G x.now) :
    gLex P ops w0 (fun a G => ∀ w', Grows w0 w' → ∀ a', Conc G a a' w' → wpList P ops Q tail a' w') [] a G := fun w' hw a' hc => h ⟨w', hw⟩ a' hc
end
def OneP2 (v v2 : Value) : Pr := fun u w => ∃ g, u = .slice (some ⟨g, 0, none⟩) 1 1 ∧ Holds w ⟨g, 0, none⟩ v ∧ Holds w ⟨g, 1, none⟩ v2
theorem OneP2.lasts (v v2 : Value) : Lasts (OneP2 v v2) := fun _ _ _ hg ⟨g, e, h, h2⟩ => ⟨g, e, ⟨hg.keeps h.cell⟩, ⟨hg.keeps h2.cell⟩⟩
theorem r14AllE (N s e : Nat) (A : Option Addr) (c b off ce : Nat) (E : List Edg) (w : World) (h : Rd w A 3 E.length (esCells E)) (hr : rightF N E = 0) (hs : s < N) (hb : Rd w (some ⟨b, off, none⟩) 1 1 (([(e : Int)] : List Int).map (.int .i64))) :
    Calls Tryz.prog 37 #[.agg #[.int .i64 (N : Int), .slice A E.length c], .int .i64 (s : Int), .agg #[.bool false, .slice none 0 0, .slice (some ⟨b, off, none⟩) 1 ce, .slice none 0 0, .int .u64 0]] w fun x w' => ∃ gd, x = .returned (.slice (some ⟨gd, 0, none⟩) N N) ∧ Row1 w' gd 38 1 N N (wv (refL (srchOf N E (noO [(e : Int)])) s)) ∧ Grows w w' := by
  have h0 : Rd w none 1 0 [] := ⟨by simp, fun h => absurd h (by simp)⟩
  have hw0 : Rd w none 1 0 (wv []) := ⟨by simp [wv], fun h => absurd h (by simp)⟩
  exact r14All N s A c E (noO [(e : Int)]) none (some ⟨b, off, none⟩) none 0 ce 0 w h h0 hb hw0 (noO_ok hr hs (by simp)) (fun i hi => (noO_w hr i hi).2)
theorem row_at {w : World} {g NN : Nat} {L : List Nat} (h : Row1 w g 38 1 NN NN (wv L)) (hl : L.length = NN) {v : Nat} (hv : v < NN) : Holds w ⟨g, v, none⟩ (.int .u64 (gn L v : Int)) := ⟨(h.mine (wv_at (by omega))).cell⟩
set_option maxRecDepth 40000 in
set_option maxHeartbeats 8000000 in
theorem r48Row (N s t : Nat) (A : Option Addr) (c : Nat) (E : List Edg) (l : List Nat) (f : Nat) (w : World) (h : Rd w A 3 E.length (esCells E)) (hr : rightF N E = 0) (hs : s < N) (ht : t < N) (hp : IsPath E (noO []) N s t l f 0) (hl : l.length ≤ 1000000) :
    Calls Tryz.prog 28 #[.agg #[.int .i64 (N : Int), .slice A E.length c], .int .i64 (s : Int), .int .i64 (t : Int)] w fun e w' => ∃ A' c', e = .returned (.tuple #[.slice A' l.length c', .int .i64 0]) ∧ Rd w' A' 2 l.length (its (vitL N E s t l)) ∧ Grows w w' := by
  obtain ⟨r1, r2, r3, r4, r5⟩ := right_in hr
  have h0 : Rd w none 1 0 [] := ⟨by simp, fun h => absurd h (by simp)⟩
  have hw0 : Rd w none 1 0 (wv []) := ⟨by simp [wv], fun h => absurd h (by simp)⟩
  have C1 := hide (fun (W : World) (g : Grows w W) => show Calls Tryz.prog 53 #[.agg #[.int .i64 (N : Int), .slice A E.length c], .int .i64 (s : Int), .int .i64 (t : Int), .agg #[.bool false, .slice none 0 0, .slice none 0 0, .slice none 0 0, .int .u64 0]] W fun e w' =>
      ∃ A' c', e = .returned (.tuple #[.agg #[.slice A' l.length c', .int .u64 (f : Int)], .int .i64 0]) ∧ Own w' W.heap.size 3 1 A' l.length c' (nv l) ∧ Grows W w' from
    r15Path N s t A c E (noO []) none none none 0 0 0 l f 0 W (h.grows g) (h0.grows g) (h0.grows g) (hw0.grows g) (by omega) (by simp) hp)
  have C2 := hide (fun (e b off ce : Nat) (W : World) (g : Grows w W) (hb : Rd W (some ⟨b, off, none⟩) 1 1 (([(e : Int)] : List Int).map (.int .i64))) => r14AllE N s e A c b off ce E W (h.grows g) hr hs hb)
  have HFL := hide (fun e : Nat => show (refL (srchOf N E (noO [(e : Int)])) s).length = N from by unfold refL; split <;> simp [cutL, rndK_len, dBeg, srchOf])
  have HFW := hide (fun e : Nat => show farW N E s t e = gn (refL (srchOf N E (noO [(e : Int)])) s) t from rfl)
  generalize hF : (fun e : Nat => refL (srchOf N E (noO [(e : Int)])) s) = F at *
  have hF2 : ∀ e : Nat, refL (srchOf N E (noO [(e : Int)])) s = F e := fun e => congrFun hF e
  simp only [hF2] at C2 HFL HFW
  clear h h0 hw0 hr hs hp r1 r2 r3 r4 r5 hF hF2
  go_enter Tryz.func28, Tryz.ntmps28
  go_upto_region 2 with (go_at_call 53; refine (C1.out _ GG).mono ?_; rintro e w' ⟨A1, c1, rfl, ho, hg⟩; obtain ⟨x1, rfl⟩ := hg.later; have HO := hide ho; clear hg ho)
  obtain ⟨W3, hW3⟩ : ∃ W, W = x1.now.alloc (.cells #[.slice A1 l.length c1, .int .u64 (f : Int)] 93) := ⟨_, rfl⟩
  have hg3 : Grows x1.now W3 := by rw [hW3]; exact (Grows.refl _).new _
  have hgw : Grows w W3 := (show Grows w x1.now from GG).trans hg3
  have a3 : Arr W3 w.heap.size 24 [.int .i64 (N : Int), .slice A E.length c] := (Arr.make w _ _).grow (x1.grows.trans hg3)
  have a8 : Arr W3 x1.now.heap.size 93 [.slice A1 l.length c1, .int .u64 (f : Int)] := by rw [hW3]; exact Arr.make _ _ _
  have HO := hide (HO.out.grows hg3)
  rw [← hW3]
  clear hW3 hg3 C1
  generalize x1.now.heap.size = b8 at *
  generalize hb3 : w.heap.size = b3 at *
  replace hb3 := hide hb3
  have HB := hide (show ∃ g, 0 < l.length → A1 = some ⟨g, 0, none⟩ ∧ ∀ j, j < l.length → Mine W3 ⟨g, j, none⟩ (.int .i64 (gn l j : Int)) from by
    by_cases hz : 0 < l.length
    · obtain ⟨g, hA, _, hc⟩ := HO.out.at hz
      exact ⟨g, fun _ => ⟨hA, fun j hj => hc j _ (nv_at hj)⟩⟩
    · exact ⟨0, fun h => absurd h hz⟩)
  have hcap : 0 < l.length → l.length ≤ c1 := fun hz => by
    obtain ⟨_, _, _, _, _, h4, _⟩ := HO.out.at_ hz
    exact h4
  clear HO
  go_wp2_with fail
  go_loopw [11, 10] (fun i u wr => ∃ k : Nat, k ≤ l.length ∧ i = .int .i64 (k : Int) ∧ ∃ y : Later W3, wr = y.now ∧ ∃ A2 c2, u = .slice A2 k c2 ∧ Own y.now W3.heap.size 56 2 A2 k c2 (its (vitL N E s t (l.take k)))) (fun i _ _ => l.length - (Go.RowKit.intOf i).toNat)
  case atStart => exact ⟨0, by omega, by go_num, ⟨_, Grows.refl _⟩, rfl, none, 0, rfl, by simpa [vitL, its] using Own.nil _ _ _ _⟩
  case round =>
    obtain ⟨k, hk, rfl, y, rfl, A2, c2, rfl, hown⟩ := hrel
    have HO2 := hide hown
    clear hown
    by_cases hlt : k < l.length
    · obtain ⟨g, hg0⟩ := HB.out
      obtain ⟨rfl, hc⟩ := hg0 (by omega)
      have m1 := hc k hlt
      have hcp := hcap (by omega)
      have HNX := hide (vitL_next N E s t hlt)
      have C2k := hide (C2.out (gn l k))
      have HFLk := hide (HFL.out (gn l k))
      have HFWk := hide (HFW.out (gn l k))
      have HRE := hide (show Rd W3 (some ⟨g, k, none⟩) 1 1 (([(gn l k : Int)] : List Int).map (.int .i64)) from ⟨by simp, fun _ _ => ⟨g, k, rfl, by
        intro i v hv
        have : i = 0 := by
          have := (List.getElem?_eq_some_iff.1 hv).1
          simpa using this
        subst this
        simp at hv
        subst hv
        simpa using (hc k hlt).cell⟩⟩)
      clear hc hg0 hcap
      generalize farW N E s t (gn l k) = fw at *
      generalize F (gn l k) = Fk at *
      generalize gn l k = ek at *
      clear HO HB
      go_upto_region 8 with fail
      refine wp_region_tail1 21 (by kernel_rfl) (by kernel_rfl) ?_
      simp only [List.take_succ_cons, List.take_zero, List.drop_succ_cons, List.drop_zero]
      (repeat' (first | (refine gLex_val0 rfl (by kernel_rfl) (fun K hK => ?_); (go_simp; (try (simp only [↓IntWalk.iteOmega]; try go_simp)); (try simp (disch := omega) only [IntWalk.i64_in]); (try simp (disch := omega) only [IntWalk.u64_in]); first | (refine hK _ ?_; clear hK K) | (apply Exists.intro; refine ⟨fun x => ?_, hK _ ?_⟩; (first | fail); clear hK K))) | (refine gLex_undef rfl rfl rfl (by kernel_rfl) (fun K hK => ?_); go_simp; refine hK _ ?_; clear hK K) | (refine gLex_ask rfl rfl rfl ?_; first | (apply gAsk_yes; kernel_rfl; intro K hK; (go_simp; (try (simp only [↓IntWalk.iteOmega]; try go_simp)); (try simp (disch := omega) only [IntWalk.i64_in]); (try simp (disch := omega) only [IntWalk.u64_in]); first | (refine hK _ ?_; clear hK K) | (apply Exists.intro; refine ⟨fun x => ?_, hK _ ?_⟩; (first | fail); clear hK K))) | ((first | apply gAsk_no1 | apply gAsk_no2); kernel_rfl; intro K hK; simp [go_sem]; refine hK _ ?_; clear hK K))))
      refine gLex_prop rfl (by kernel_rfl) rfl (by simp) (fun u' w' => ∃ gd, u' = .slice (some ⟨gd, 0, none⟩) N N ∧ Row1 w' gd 38 1 N N (wv Fk)) (fun _ _ _ hg ⟨gd, e, h⟩ => ⟨gd, e, h.grow hg⟩) (fun x => by
        go_simp
        refine (C2k.out g k _ _ (hgw.trans (y.grows.trans x.grows)) (HRE.out.grows (y.grows.trans x.grows))).mono ?_
        rintro e w' ⟨gd, rfl, hrow, hg⟩
        exact ⟨_, rfl, hg, gd, rfl, hrow⟩) ?_
      (repeat' (first | (refine gLex_val0 rfl (by kernel_rfl) (fun K hK => ?_); (go_simp; (try (simp only [↓IntWalk.iteOmega]; try go_simp)); (try simp (disch := omega) only [IntWalk.i64_in]); (try simp (disch := omega) only [IntWalk.u64_in]); first | (refine hK _ ?_; clear hK K) | (apply Exists.intro; refine ⟨fun x => ?_, hK _ ?_⟩; (first | fail); clear hK K))) | (refine gLex_undef rfl rfl rfl (by kernel_rfl) (fun K hK => ?_); go_simp; refine hK _ ?_; clear hK K) | (refine gLex_ask rfl rfl rfl ?_; first | (apply gAsk_yes; kernel_rfl; intro K hK; (go_simp; (try (simp only [↓IntWalk.iteOmega]; try go_simp)); (try simp (disch := omega) only [IntWalk.i64_in]); (try simp (disch := omega) only [IntWalk.u64_in]); first | (refine hK _ ?_; clear hK K) | (apply Exists.intro; refine ⟨fun x => ?_, hK _ ?_⟩; (first | fail); clear hK K))) | ((first | apply gAsk_no1 | apply gAsk_no2); kernel_rfl; intro K hK; simp [go_sem]; refine hK _ ?_; clear hK K))))
      refine gLex_dep (t0 := 45) (by kernel_rfl) (by kernel_rfl) rfl (by simp) rfl (by simp) (fun u' w' => ∃ gd, u' = .pointer (some ⟨gd, t, none⟩) ∧ Row1 w' gd 38 1 N N (wv Fk)) (fun _ _ _ hg ⟨gd, e, h⟩ => ⟨gd, e, h.grow hg⟩) (fun x u' hu' => by
        obtain ⟨gd, rfl, hrow⟩ := hu'
        go_simp
        all_goals exact ⟨Grows.refl _, gd, rfl, hrow⟩) ?_
      refine gLex_depV (t0 := 47) (by kernel_rfl) (by kernel_rfl) rfl (by simp) (.int .u64 (fw : Int)) (fun x u' hu' => by
        obtain ⟨gd, rfl, hrow⟩ := hu'
        have c2 := row_at hrow HFLk.out ht
        rw [← HFWk.out] at c2
        go_simp
        all_goals exact ⟨Grows.refl _, rfl⟩) ?_
      (repeat' (first | (refine gLex_val0 rfl (by kernel_rfl) (fun K hK => ?_); (go_simp; (try (simp only [↓IntWalk.iteOmega]; try go_simp)); (try simp (disch := omega) only [IntWalk.i64_in]); (try simp (disch := omega) only [IntWalk.u64_in]); first | (refine hK _ ?_; clear hK K) | (apply Exists.intro; refine ⟨fun x => ?_, hK _ ?_⟩; (first | fail); clear hK K))) | (refine gLex_undef rfl rfl rfl (by kernel_rfl) (fun K hK => ?_); go_simp; refine hK _ ?_; clear hK K) | (refine gLex_ask rfl rfl rfl ?_; first | (apply gAsk_yes; kernel_rfl; intro K hK; (go_simp; (try (simp only [↓IntWalk.iteOmega]; try go_simp)); (try simp (disch := omega) only [IntWalk.i64_in]); (try simp (disch := omega) only [IntWalk.u64_in]); first | (refine hK _ ?_; clear hK K) | (apply Exists.intro; refine ⟨fun x => ?_, hK _ ?_⟩; (first | fail); clear hK K))) | ((first | apply gAsk_no1 | apply gAsk_no2); kernel_rfl; intro K hK; simp [go_sem]; refine hK _ ?_; clear hK K))))
      refine gLex_prop rfl (by kernel_rfl) rfl (by simp) (OneP2 (.int .i64 (ek : Int)) (.int .u64 (fw : Int))) (OneP2.lasts _ _) (fun x => by
        have a := Arr.make x.now [.int .i64 (ek : Int), .int .u64 (fw : Int)] 56
        go_simp
        exact ⟨(Grows.refl _).new _, _, rfl, ⟨(a.mine 0 rfl).cell⟩, ⟨(a.mine 1 rfl).cell⟩⟩) ?_
      refine gLex_endR (fun y5 => ?_)
      refine AtR.pop rfl (by simp) (fun z1 hz1 => ?_)
      refine AtR.pop rfl (by simp [Act.put]) (fun z2 _ => ?_)
      refine AtR.pop rfl (by simp [Act.put]) (fun z3 _ => ?_)
      refine AtR.base ?_
      obtain ⟨g9, rfl, q1, q2⟩ := hz1
      simp only [Act.put, List.setIfInBounds_toArray, List.set_cons_zero, List.set_cons_succ]
      go_wp2_with (at_builtin; refine wp_app2M elemRVital rfl _ _ rfl W3 GG k c2 A2 _ rfl (HO2.out.grows GG) _ _ _ _ rfl inferInstance inferInstance rfl rfl (by omega) ?_; intro A6 c6 y6 hown6 hgr6; have HO6 := hide hown6; clear hown6 hgr6)
      go_roundw
      case measure => simp [Go.RowKit.intOf]; omega
      case rel => exact ⟨k + 1, by omega, by go_num, y6, rfl, A6, c6, rfl, by rw [HNX.out, its_app]; exact HO6.out⟩
    · obtain rfl : l.length = k := by omega
      rw [List.take_length] at HO2
      go_wp2_with fail
      refine bodyPost_ret (v := .tuple #[.slice A2 l.length c2, .int .i64 0]) (by simp (maxDischargeDepth := 6) [results, Tryz.results28, go_sem, *]) rfl ⟨A2, c2, rfl, HO2.out.rd, hgw.trans y.grows⟩
set_option maxRecDepth 20000 in
set_option maxHeartbeats 4000000 in
theorem r48RowNo (N s t : Int) (A : Option Addr) (c : Nat) (E : List Edg) (l : List Nat) (f : Nat) (r : Int) (w : World) (h : Rd w A 3 E.length (esCells E)) (hn : E.length ≤ 1000000) (hp : IsPath E (noO []) N s t l f r) (hr : r ≠ 0) :
    Calls Tryz.prog 28 #[.agg #[.int .i64 N, .slice A E.length c], .int .i64 s, .int .i64 t] w fun e w' => e = .returned (.tuple #[.slice none 0 0, .int .i64 r]) ∧ Grows w w' := by
  have h0 : Rd w none 1 0 [] := ⟨by simp, fun h => absurd h (by simp)⟩
  have hw0 : Rd w none 1 0 (wv []) := ⟨by simp [wv], fun h => absurd h (by simp)⟩
  have C1 := hide (fun (W : World) (g : Grows w W) => show Calls Tryz.prog 53 #[.agg #[.int .i64 N, .slice A E.length c], .int .i64 s, .int .i64 t, .agg #[.bool false, .slice none 0 0, .slice none 0 0, .slice none 0 0, .int .u64 0]] W fun e w' =>
      ∃ A' c', e = .returned (.tuple #[.agg #[.slice A' l.length c', .int .u64 (f : Int)], .int .i64 r]) ∧ Own w' W.heap.size 3 1 A' l.length c' (nv l) ∧ Grows W w' from
    r15Path N s t A c E (noO []) none none none 0 0 0 l f r W (h.grows g) (h0.grows g) (h0.grows g) (hw0.grows g) hn (by simp) hp)
  have hb : (r != 0) = true := bne_iff_ne.2 hr
  clear h h0 hw0 hp hr
  go_enter Tryz.func28, Tryz.ntmps28
  go_wp2_with (go_at_call 53; refine (C1.out _ GG).mono ?_; rintro e w' ⟨A1, c1, rfl, ho, hg⟩; obtain ⟨x1, rfl⟩ := hg.later; clear hg ho)
  refine bodyPost_ret (v := .tuple #[.slice none 0 0, .int .i64 r]) (by simp (maxDischargeDepth := 6) [results, Tryz.results28, go_sem, *]) rfl ⟨rfl, GG⟩
end Go.Proofs.YtomednfddpggaaaGreat
