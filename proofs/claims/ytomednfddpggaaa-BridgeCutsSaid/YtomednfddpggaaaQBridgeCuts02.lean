/- The law BridgeCuts: for every input it returns true, and each argument reads as before. No condition. -/
import Derived.Test.YtomednfddpggaaaQBridgeCuts00
import Derived.Test.YtomednfddpggaaaQBridgeCuts01
import Derived.Test.YtomednfddpggaaaQBridgeFarther08
import Derived.Test.YtomednfddpggaaaQBridgeFarther17
import Derived.Test.YtomednfddpggaaaQBridgeFarther03
import Derived.Test.YtomednfddpggaaaQBridgeFarther23
/- Contracts: the document's answer on bridges: without which edges there are more parts. -/
namespace Go.Proofs.Ytomednfddpggaaa
open Go Go.RowKit
attribute [local go_sem] Oper.semAt_some
set_option maxRecDepth 20000 in
set_option maxHeartbeats 2000000 in
theorem r17WeakNo (N : Int) (A : Option Addr) (n c : Nat) (E : List Edg) (w : World) (h : Rd w A 3 n (esCells E)) (hn : n ≤ 1000000) (hr : rightF N E ≠ 0) :
    Calls Try.prog 47 #[.agg #[.int .i64 N, .slice A n c]] w fun e w' => e = .returned (.slice none 0 0) ∧ Grows w w' := by
  have C0 := hide (fun (W : World) (g : Grows w W) => r5Right N A n c E W (h.grows g) hn)
  have hb : (rightF N E != 0) = true := bne_iff_ne.2 hr
  clear h hr
  generalize rightF N E = r at *
  go_enter Try.func47, Try.ntmps47
  go_wp2_with (go_at_call 31; refine (C0.out _ GG).mono ?_; rintro e w' ⟨rfl, hg⟩; obtain ⟨x0, rfl⟩ := hg.later; clear hg)
  go_ret
  exact ⟨rfl, GG⟩
set_option maxRecDepth 40000 in
set_option maxHeartbeats 8000000 in
theorem r48CutsNo (N : Int) (A : Option Addr) (n c : Nat) (E : List Edg) (w : World) (h : Rd w A 3 n (esCells E)) (hn : n ≤ 1000000) (hr : rightF N E ≠ 0) :
    Calls Try.prog 15 #[.agg #[.int .i64 N, .slice A n c]] w fun e w' => e = .returned (.slice none 0 0) ∧ Grows w w' := by
  have C0 := hide (fun (W : World) (g : Grows w W) => r5Right N A n c E W (h.grows g) hn)
  have CW := hide (fun (W : World) (g : Grows w W) => r17WeakNo N A n c E W (h.grows g) hn hr)
  have CC := hide (fun (W : World) => show Calls Try.prog 46 #[.slice none 0 0] W fun e w' => e = .returned (.int .i64 0) ∧ Grows W w' from by
    have := r17Count none 0 [] W ⟨by simp, fun h => absurd h (by simp)⟩ (by simp) (by simp)
    simpa [fsts] using this)
  have hb : (rightF N E == 0) = false := beq_eq_false_iff_ne.2 hr
  clear h hr
  generalize rightF N E = r at *
  go_enter Try.func15, Try.ntmps15
  go_wp2_with (first
    | (go_at_call 47; refine (CW.out _ GG).mono ?_; rintro e w' ⟨rfl, hg⟩; obtain ⟨x1, rfl⟩ := hg.later; clear hg)
    | (go_at_call 46; refine (CC.out _).mono ?_; rintro e w' ⟨rfl, hg⟩; obtain ⟨x2, rfl⟩ := hg.later; clear hg))
  go_loopw [5, 3] (fun i u wr => i = .int .i64 0 ∧ u = .slice none 0 0 ∧ ∃ y : Later x2.now, wr = y.now) (fun _ _ _ => 0)
  case atStart => exact ⟨rfl, rfl, ⟨_, Grows.refl _⟩, rfl⟩
  case round =>
    obtain ⟨rfl, rfl, y, rfl⟩ := hrel
    go_wp2_with (go_at_call 31; refine (C0.out _ GG).mono ?_; rintro e w' ⟨rfl, hg⟩; obtain ⟨y0, rfl⟩ := hg.later; clear hg)
    all_goals go_ret
    all_goals exact ⟨rfl, GG⟩
set_option maxRecDepth 20000 in
set_option maxHeartbeats 2000000 in
theorem bwCutsNo (N : Int) (A : Option Addr) (n c : Nat) (E : List Edg) (w : World) (h : Rd w A 3 n (esCells E)) (hn : n ≤ 1000000) (hr : rightF N E ≠ 0) :
    Calls Try.prog 14 #[.agg #[.int .i64 N, .slice A n c]] w fun e w' => e = .returned (.slice none 0 0) ∧ Grows w w' := by
  have C0 := hide (fun (W : World) (g : Grows w W) => adjNewNo N A n c E W (h.grows g) hn hr)
  clear h hr
  go_enter Try.func14, Try.ntmps14
  go_wp2_with (go_at_call 43; refine (C0.out _ GG).mono ?_; rintro e w' ⟨rfl, hg⟩; obtain ⟨x0, rfl⟩ := hg.later; clear hg)
  go_ret
  exact ⟨rfl, GG⟩
set_option maxRecDepth 40000 in
set_option maxHeartbeats 8000000 in
theorem r48Cuts (N : Nat) (A : Option Addr) (c : Nat) (E : List Edg) (w : World) (h : Rd w A 3 E.length (esCells E)) (hr : rightF N E = 0) :
    Calls Try.prog 15 #[.agg #[.int .i64 (N : Int), .slice A E.length c]] w fun e w' => ∃ A' c', e = .returned (.slice A' (fltL (moreB N E) E.length).length c') ∧ Rd w' A' 1 (fltL (moreB N E) E.length).length ((fltL (moreB N E) E.length).map (.int .i64)) ∧ Grows w w' := by
  obtain ⟨r1, r2, r3, r4, r5⟩ := right_in hr
  have C0 := hide (fun (W : World) (g : Grows w W) => by have := r5Right N A E.length c E W (h.grows g) (by omega); rw [hr] at this; exact this)
  have CW := hide (fun (W : World) (g : Grows w W) => r17Weak N A c E W (h.grows g) hr)
  have CC := hide (fun (F : List Edg) (W : World) (g : Nat) (ha : Arr W g 3 ((weakL N F).map (.int .i64))) => show Calls Try.prog 46 #[.slice (some ⟨g, 0, none⟩) N N] W fun e w' => e = .returned (.int .i64 (((fsts (weakL N F) N).length : Nat) : Int)) ∧ Grows W w' from by
    have hl := weakL_len N F
    have := r17Count (some ⟨g, 0, none⟩) N (weakL N F) W (ha.rd (by simp)) (by omega) (by omega)
    rwa [hl] at this)
  have C3 := hide (fun (k : Nat) (hk : k < E.length) (W : World) (g : Grows w W) => r48Without N A c E k W (h.grows g) hr hk)
  have C4 := hide (fun (k : Nat) (W : World) (A' : Option Addr) (c' : Nat) (h : Rd W A' 3 (E.eraseIdx k).length (esCells (E.eraseIdx k))) => r17Weak N A' c' (E.eraseIdx k) W h (right_erase k hr))
  have HMB := hide (fun k => show moreB N E k = decide ((fsts (weakL N E) N).length < (fsts (weakL N (E.eraseIdx k)) N).length) from rfl)
  have hN : N ≤ 4096 := by omega
  have hEl : E.length ≤ 16384 := r3
  have CC1 := hide (fun (W : World) (g : Nat) (ha : Arr W g 3 ((weakL N E).map (.int .i64))) => CC.out E W g ha)
  clear h hr r1 r2 r3 r4 r5
  generalize (fsts (weakL N E) N).length = n0 at *
  generalize weakL N E = WL at *
  go_enter Try.func15, Try.ntmps15
  go_wp2_with (first
    | (go_at_call 47; refine (CW.out _ GG).mono ?_; rintro e w' ⟨g1, rfl, ha1, hg⟩; obtain ⟨x1, rfl⟩ := hg.later; have HA1 := hide ha1; clear hg ha1)
    | (go_at_call 46; refine (CC1.out _ g1 HA1.out).mono ?_; rintro e w' ⟨rfl, hg⟩; obtain ⟨x2, rfl⟩ := hg.later; clear hg))
  have hgw : Grows w x2.now := GG
  have z1 : Arr x2.now w.heap.size 24 [.int .i64 (N : Int), .slice A E.length c] := (Arr.make w _ _).grow (show Grows (w.alloc (.cells #[.int .i64 (N : Int), .slice A E.length c] 24)) x2.now from GG)
  clear CW CC1
  generalize w.heap.size = b1 at *
  go_loopw [5, 3] (fun i u wr => ∃ k : Nat, k ≤ E.length ∧ i = .int .i64 (k : Int) ∧ ∃ y : Later x2.now, wr = y.now ∧ ∃ A1 c1 s1, u = .slice A1 s1 c1 ∧ Hid (s1 = (fltL (moreB N E) k).length) ∧ Own y.now x2.now.heap.size 3 1 A1 s1 c1 ((fltL (moreB N E) k).map (.int .i64))) (fun i _ _ => E.length - (Go.RowKit.intOf i).toNat)
  case atStart => exact ⟨0, by omega, by go_num, ⟨_, Grows.refl _⟩, rfl, none, 0, 0, rfl, rfl, Own.nil _ _ _ _⟩
  case round =>
    obtain ⟨k, hk, rfl, y, rfl, A1, c1, s1, rfl, HS1, hown⟩ := hrel
    have HO := hide hown
    clear hown
    by_cases hlt : k < E.length
    · have C3k := hide (C3.out k hlt)
      have C4k := hide (C4.out k)
      have hnd := HMB.out k
      have CC2 := hide (fun (W : World) (g : Nat) (ha : Arr W g 3 ((weakL N (E.eraseIdx k)).map (.int .i64))) => CC.out (E.eraseIdx k) W g ha)
      have hs1 : s1 ≤ 1000000 := by have := HS1.out; have := fltL_len (moreB N E) k; omega
      have HNX := hide (fltL_next (moreB N E) k)
      clear CC C3 C4 HMB
      generalize (fsts (weakL N (E.eraseIdx k)) N).length = m at *
      generalize weakL N (E.eraseIdx k) = WL2 at *
      generalize (E.eraseIdx k).length = n3 at *
      generalize esCells (E.eraseIdx k) = cs3 at *
      cases hd : decide (n0 < m) with
      | false =>
        rw [hd] at hnd
        rw [if_neg (by rw [hnd]; decide)] at HNX
        have hnm : ¬ n0 < m := of_decide_eq_false hd
        clear hnd hd
        go_wp2_with (first
          | (go_at_call 31; refine (C0.out _ (hgw.trans GG)).mono ?_; rintro e w' ⟨rfl, hg⟩; obtain ⟨y1, rfl⟩ := hg.later; clear hg)
          | (go_at_call 10; refine (C3k.out _ (hgw.trans GG)).mono ?_; rintro e w' ⟨A3, c3, rfl, hr3, hg⟩; obtain ⟨y3, rfl⟩ := hg.later; have HR3 := hide hr3; clear hg hr3)
          | (go_at_call 47; refine (C4k.out _ A3 c3 (HR3.out.grows GG)).mono ?_; rintro e w' ⟨g4, rfl, ha4, hg⟩; obtain ⟨y4, rfl⟩ := Grows.later2 (((Grows.refl y3.now).new _).trans hg); have HA4 := hide ha4; clear hg ha4)
          | (go_at_call 46; refine (CC2.out _ g4 HA4.out).mono ?_; rintro e w' ⟨rfl, hg⟩; obtain ⟨y5, rfl⟩ := hg.later; clear hg))
        go_roundw
        case measure => simp [Go.RowKit.intOf]; omega
        case rel => exact ⟨k + 1, by omega, by go_num, ⟨y5.now, show Grows x2.now y5.now from GG⟩, rfl, A1, c1, s1, rfl, by show s1 = _; rw [HNX.out]; exact HS1.out, by rw [HNX.out]; exact HO.out.grows (show Grows y.now y5.now from GG)⟩
      | true =>
        rw [hd] at hnd
        rw [if_pos (by rw [hnd])] at HNX
        have hnm : n0 < m := of_decide_eq_true hd
        clear hnd hd
        go_wp2_with (first
          | (go_at_call 31; refine (C0.out _ (hgw.trans GG)).mono ?_; rintro e w' ⟨rfl, hg⟩; obtain ⟨y1, rfl⟩ := hg.later; clear hg)
          | (go_at_call 10; refine (C3k.out _ (hgw.trans GG)).mono ?_; rintro e w' ⟨A3, c3, rfl, hr3, hg⟩; obtain ⟨y3, rfl⟩ := hg.later; have HR3 := hide hr3; clear hg hr3)
          | (go_at_call 47; refine (C4k.out _ A3 c3 (HR3.out.grows GG)).mono ?_; rintro e w' ⟨g4, rfl, ha4, hg⟩; obtain ⟨y4, rfl⟩ := Grows.later2 (((Grows.refl y3.now).new _).trans hg); have HA4 := hide ha4; clear hg ha4)
          | (go_at_call 46; refine (CC2.out _ g4 HA4.out).mono ?_; rintro e w' ⟨rfl, hg⟩; obtain ⟨y5, rfl⟩ := hg.later; clear hg)
          | (at_builtin; refine wp_app1 elemInt rfl _ _ rfl x2.now GG s1 c1 A1 _ rfl (HO.out.grows GG) _ _ _ rfl inferInstance rfl (by omega) ?_; intro A6 c6 y6 hown6; have HO6 := hide hown6; clear hown6))
        go_roundw
        case measure => simp [Go.RowKit.intOf]; omega
        case rel => exact ⟨k + 1, by omega, by go_num, y6, rfl, A6, c6, s1 + 1, rfl, by show s1 + 1 = _; rw [HNX.out, List.length_append, ← HS1.out]; rfl, by rw [HNX.out, List.map_append]; exact HO6.out⟩
    · obtain rfl : E.length = k := by omega
      go_wp2_with fail
      rw [← HS1.out]
      go_ret
      exact ⟨A1, c1, rfl, HO.out.rd, hgw.trans y.grows⟩
theorem rd_one (w : World) (x : Int) : Rd (w.alloc (.cells #[.int .i64 x] 3)) (some ⟨w.heap.size, 0, none⟩) 1 1 (([x] : List Int).map (.int .i64)) := Rd.made (w := w) (t := 3) (size := 1) (n := 1) (([x] : List Int).map (.int .i64)) rfl
set_option maxRecDepth 40000 in
set_option maxHeartbeats 8000000 in
theorem r48Needs (N s : Nat) (A : Option Addr) (c : Nat) (E : List Edg) (w : World) (h : Rd w A 3 E.length (esCells E)) (hr : rightF N E = 0) (hs : s < N) :
    Calls Try.prog 17 #[.agg #[.int .i64 (N : Int), .slice A E.length c], .int .i64 (s : Int)] w fun e w' => ∃ A' c', e = .returned (.slice A' (fltL (needB N E s) E.length).length c') ∧ Rd w' A' 1 (fltL (needB N E s) E.length).length ((fltL (needB N E s) E.length).map (.int .i64)) ∧ Grows w w' := by
  obtain ⟨r1, r2, r3, r4, r5⟩ := right_in hr
  have h0 : Rd w none 1 0 [] := ⟨by simp, fun h => absurd h (by simp)⟩
  have h1 : Rd w none 1 0 (wv []) := ⟨by simp [wv], fun h => absurd h (by simp)⟩
  have hwb : ∀ i, i < E.length → gn (wtF N E []) i ≤ 17592186044416 := fun i hi => (noO_w hr i hi).2
  have C1 := hide (fun (W : World) (g : Grows w W) => show Calls Try.prog 48 #[.agg #[.int .i64 (N : Int), .slice A E.length c], .int .i64 (s : Int), .agg #[.bool false, .slice none 0 0, .slice none 0 0, .slice none 0 0, .int .u64 0]] W fun e w' => ∃ gd, e = .returned (.slice (some ⟨gd, 0, none⟩) N N) ∧ Row1 w' gd 38 1 N N (wv (refL (srchOf N E (noO [])) s)) ∧ Grows W w' from
    r14All N s A c E (noO []) none none none 0 0 0 W (h.grows g) (h0.grows g) (h0.grows g) (h1.grows g) (noO_ok hr hs (by simp)) hwb)
  have C2 := hide (fun (k : Nat) (W : World) (g : Grows w W) (b : Nat) (hb : Rd W (some ⟨b, 0, none⟩) 1 1 (([(k : Int)] : List Int).map (.int .i64))) => show Calls Try.prog 48 #[.agg #[.int .i64 (N : Int), .slice A E.length c], .int .i64 (s : Int), .agg #[.bool false, .slice none 0 0, .slice (some ⟨b, 0, none⟩) 1 1, .slice none 0 0, .int .u64 0]] W fun e w' => ∃ gd, e = .returned (.slice (some ⟨gd, 0, none⟩) N N) ∧ Row1 w' gd 38 1 N N (wv (refL (srchOf N E (noO [(k : Int)])) s)) ∧ Grows W w' from
    r14All N s A c E (noO [(k : Int)]) none (some ⟨b, 0, none⟩) none 0 1 0 W (h.grows g) (h0.grows g) hb (h1.grows g) (noO_ok hr hs (by simp)) hwb)
  have HND := hide (fun k (hk : k < E.length) => need_is hr hs hk)
  have hN : N ≤ 4096 := by omega
  have hEl : E.length ≤ 16384 := r3
  clear h h0 h1 hwb hr hs r1 r2 r3 r4 r5
  generalize refL (srchOf N E (noO [])) s = a at *
  go_enter Try.func17, Try.ntmps17
  go_wp2_with (go_at_call 48; refine (C1.out _ GG).mono ?_; rintro e w' ⟨g1, rfl, ha1, hg⟩; obtain ⟨x2, rfl⟩ := hg.later; have HA1 := hide ha1; clear hg ha1)
  have hgw : Grows w x2.now := GG
  have z1 : Arr x2.now w.heap.size 24 [.int .i64 (N : Int), .slice A E.length c] := (Arr.make w _ _).grow (show Grows (w.alloc (.cells #[.int .i64 (N : Int), .slice A E.length c] 24)) x2.now from GG)
  have hla : a.length = N := by have := HA1.out.len; simpa [wv] using this
  clear C1
  generalize w.heap.size = b1 at *
  go_loopw [7, 5] (fun i u wr => ∃ k : Nat, k ≤ E.length ∧ i = .int .i64 (k : Int) ∧ ∃ y : Later x2.now, wr = y.now ∧ ∃ A1 c1 s1, u = .slice A1 s1 c1 ∧ Hid (s1 = (fltL (needB N E s) k).length) ∧ Own y.now x2.now.heap.size 3 1 A1 s1 c1 ((fltL (needB N E s) k).map (.int .i64))) (fun i _ _ => E.length - (Go.RowKit.intOf i).toNat)
  case atStart => exact ⟨0, by omega, by go_num, ⟨_, Grows.refl _⟩, rfl, none, 0, 0, rfl, rfl, Own.nil _ _ _ _⟩
  case round =>
    obtain ⟨k, hk, rfl, y, rfl, A1, c1, s1, rfl, HS1, hown⟩ := hrel
    have HO := hide hown
    clear hown
    by_cases hlt : k < E.length
    · have C2k := hide (C2.out k)
      have hnd := HND.out k hlt
      have hs1 : s1 ≤ 1000000 := by have := HS1.out; have := fltL_len (needB N E s) k; omega
      have HNX := hide (fltL_next (needB N E s) k)
      clear C2 HND
      generalize refL (srchOf N E (noO [(k : Int)])) s = b at *
      have hkd : decide (k < E.length) = true := decide_eq_true hlt
      have HNDk := hide hnd
      clear hnd
      go_upto_region 7 with (go_at_call 48; refine (C2k.out _ (hgw.trans GG) _ (rd_one _ _)).mono ?_; rintro e w' ⟨g2, rfl, ha2, hg⟩; have HGG := hide (((Grows.refl y.now).new _).trans hg); obtain ⟨y2, rfl⟩ := Grows.later2 (((Grows.refl y.now).new _).trans hg); have HA2 := hide ha2; clear hg ha2)
      have hlb : b.length = N := by have := HA2.out.len; simpa [wv] using this
      have HO2 := hide (HO.out.grows HGG.out)
      clear HO HGG C2k
      go_wp2_with fail
      go_loopw [10, 9] (fun i u wr => ∃ v : Nat, v ≤ N ∧ i = .int .i64 (v : Int) ∧ u = .bool (lackB a b v) ∧ wr = y2.now) (fun i _ _ => N - (Go.RowKit.intOf i).toNat)
      case atStart => exact ⟨0, by omega, by go_num, rfl, rfl⟩
      case round =>
        obtain ⟨v, hv, rfl, rfl, rfl⟩ := hrel
        by_cases hlv : v < N
        · have m1 := (HA1.out.grow y2.grows).mine (wv_at (W := a) (j := v) (by omega))
          have m2 := HA2.out.mine (wv_at (W := b) (j := v) (by omega))
          have HST := hide (show lackB a b (v + 1) = (lackB a b v || (decide (gn a v < farV) && !decide (gn b v < farV))) from rfl)
          obtain ⟨xa, hxa⟩ : ∃ x : Int, (gn a v : Int) = x := ⟨_, rfl⟩
          obtain ⟨xb, hxb⟩ : ∃ x : Int, (gn b v : Int) = x := ⟨_, rfl⟩
          obtain ⟨p, hp⟩ : ∃ p, decide (xa < 4611686018427387904) = p := ⟨_, rfl⟩
          obtain ⟨q, hq⟩ : ∃ q, decide (4611686018427387904 ≤ xb) = q := ⟨_, rfl⟩
          have hP : decide (gn a v < farV) = p := by rw [← hp, ← hxa]; unfold farV; exact decide_eq_decide.2 (by omega)
          have hQ : (!decide (gn b v < farV)) = q := by
            rw [← hq, ← hxb, ← decide_not]; unfold farV; exact decide_eq_decide.2 (by omega)
          rw [hP, hQ] at HST
          rw [hxa] at m1
          rw [hxb] at m2
          clear hP hQ hxa hxb
          generalize lackB a b v = l at *
          cases l with
          | true =>
            go_wp2_with fail
            go_roundw
            case measure => simp [Go.RowKit.intOf]; omega
            case rel => exact ⟨v + 1, by omega, by go_num, by rw [HST.out]; rfl, by first | rfl | trivial⟩
          | false =>
            cases p with
            | false =>
              have hp2 : ¬ xa < 4611686018427387904 := of_decide_eq_false hp
              go_wp2_with fail
              go_roundw
              case measure => simp [Go.RowKit.intOf]; omega
              case rel => exact ⟨v + 1, by omega, by go_num, by rw [HST.out]; rfl, by first | rfl | trivial⟩
            | true =>
              cases q with
              | false =>
                go_wp2_with fail
                go_roundw
                case measure => simp [Go.RowKit.intOf]; omega
                case rel => exact ⟨v + 1, by omega, by go_num, by rw [HST.out]; rfl, by first | rfl | trivial⟩
              | true =>
                go_wp2_with fail
                go_roundw
                case measure => simp [Go.RowKit.intOf]; omega
                case rel => exact ⟨v + 1, by omega, by go_num, by rw [HST.out]; rfl, by first | rfl | trivial⟩
        · obtain rfl : N = v := by omega
          rw [HNDk.out]
          cases hd : needB N E s k with
          | false =>
            rw [if_neg (by rw [hd]; decide)] at HNX
            clear hd
            go_wp2_with fail
            go_roundw
            case measure => simp [Go.RowKit.intOf]; omega
            case rel => exact ⟨k + 1, by omega, by go_num, y2, rfl, A1, c1, s1, rfl, by show s1 = _; rw [HNX.out]; exact HS1.out, by rw [HNX.out]; exact HO2.out⟩
          | true =>
            rw [if_pos hd] at HNX
            clear hd
            go_wp2_with (at_builtin; refine wp_app1 elemInt rfl _ _ rfl x2.now GG s1 c1 A1 _ rfl (HO2.out.grows GG) _ _ _ rfl inferInstance rfl (by omega) ?_; intro A6 c6 y6 hown6; have HO6 := hide hown6; clear hown6)
            go_roundw
            case measure => simp [Go.RowKit.intOf]; omega
            case rel => exact ⟨k + 1, by omega, by go_num, y6, rfl, A6, c6, s1 + 1, rfl, by show s1 + 1 = _; rw [HNX.out, List.length_append, ← HS1.out]; rfl, by rw [HNX.out, List.map_append]; exact HO6.out⟩
    · obtain rfl : E.length = k := by omega
      go_wp2_with fail
      rw [← HS1.out]
      go_ret
      exact ⟨A1, c1, rfl, HO.out.rd, hgw.trans y.grows⟩
end Go.Proofs.Ytomednfddpggaaa

/- Contracts: are changes the same; are graphs the same. -/
namespace Go.Proofs.Ytomednfddpggaaa
open Go Go.RowKit
set_option maxRecDepth 20000 in
theorem edge_eqv (a b c a' b' c' : Int) (W : World) : (Op.equalIn 10000 68 (.agg #[.int .i64 a, .int .i64 b, .int .u64 c]) (.agg #[.int .i64 a', .int .i64 b', .int .u64 c'])).run Try.prog W = .ok (a == a' && (b == b' && c == c')) W := by
  have h1 : ∀ x z : Int, ∀ w : World, (Op.equalIn 9999 3 (.int .i64 x) (.int .i64 z)).run Try.prog w = .ok (x == z) w := fun x z w => by
    rw [show (9999 : Nat) = 9998 + 1 from rfl, run_equalIn_int w 9998 3 .i64 .i64 x z Try.underlying3]
  have h2 : ∀ x z : Int, ∀ w : World, (Op.equalIn 9999 38 (.int .u64 x) (.int .u64 z)).run Try.prog w = .ok (x == z) w := fun x z w => by
    rw [show (9999 : Nat) = 9998 + 1 from rfl, run_equalIn_int w 9998 38 .u64 .u64 x z Try.underlying38]
  rw [show (10000 : Nat) = 9999 + 1 from rfl]
  unfold Op.equalIn
  have hp0 : ∀ (a b c : Int) (w : World), (part 3 #[Value.int .i64 a, Value.int .i64 b, Value.int .u64 c] 0).run Try.prog w = .ok (.int .i64 a) w := fun a b c w => by kernel_rfl
  have hp1 : ∀ (a b c : Int) (w : World), (part 3 #[Value.int .i64 a, Value.int .i64 b, Value.int .u64 c] 1).run Try.prog w = .ok (.int .i64 b) w := fun a b c w => by kernel_rfl
  have hp2 : ∀ (a b c : Int) (w : World), (part 38 #[Value.int .i64 a, Value.int .i64 b, Value.int .u64 c] 2).run Try.prog w = .ok (.int .u64 c) w := fun a b c w => by kernel_rfl
  have hst : Try.prog.stoodInHeld 68 = false := by kernel_rfl
  have hpr : ∀ w : World, (program).run Try.prog w = .ok Try.prog w := fun w => rfl
  simp only [Sem.run_bind, run_underlying Try.underlying68, Result.andThen_ok, hpr, hst, Bool.false_eq_true, if_false, List.forIn_toArray, List.forIn_cons, List.forIn_nil]
  cases ha : a == a' <;> cases hb : b == b' <;> cases hc : c == c' <;> simp [h1, h2, hp0, hp1, hp2, Sem.run_bind, Result.andThen_ok, ha, hb, hc]
theorem edge_eq (a b c : Int) (W : World) : (Op.equalIn 10000 68 (.agg #[.int .i64 a, .int .i64 b, .int .u64 c]) (.agg #[.int .i64 a, .int .i64 b, .int .u64 c])).run Try.prog W = .ok true W := by
  rw [edge_eqv, beq_self_eq_true, beq_self_eq_true, beq_self_eq_true]; rfl
set_option maxRecDepth 20000 in
set_option maxHeartbeats 4000000 in
theorem r5Same (N : Int) (A : Option Addr) (n c : Nat) (B : Option Addr) (d : Nat) (E : List Edg) (w : World) (ha : Rd w A 3 n (esCells E)) (hb : Rd w B 3 n (esCells E)) (hn : n ≤ 1000000) :
    Calls Try.prog 12 #[.agg #[.int .i64 N, .slice A n c], .agg #[.int .i64 N, .slice B n d]] w fun e w' => e = .returned (.bool true) ∧ Grows w w' := by
  have HA := hide ha
  have HB := hide hb
  clear ha hb
  go_enter Try.func12, Try.ntmps12
  go_wp2_with fail
  obtain ⟨W0, hW0⟩ : ∃ W0, W0 = ((w.alloc (.cells #[.int .i64 N, .slice A n c] 24)).alloc (.cells #[.int .i64 N, .slice B n d] 24)) := ⟨_, rfl⟩
  have hg0 : Grows w W0 := by rw [hW0]; exact GG
  have m0 : Mine W0 ⟨w.heap.size, 0, none⟩ (.int .i64 N) := by rw [hW0]; infer_instance
  have m1 : Mine W0 ⟨w.heap.size, 1, none⟩ (.slice A n c) := by rw [hW0]; infer_instance
  have m2 : Mine W0 ⟨w.heap.size + 1, 0, none⟩ (.int .i64 N) := by rw [hW0]; infer_instance
  have m3 : Mine W0 ⟨w.heap.size + 1, 1, none⟩ (.slice B n d) := by rw [hW0]; infer_instance
  rw [← hW0]
  clear hW0
  have HA := hide (HA.out.grows hg0)
  have HB := hide (HB.out.grows hg0)
  go_loopw [5] (fun i wr => ∃ k : Nat, k ≤ n ∧ i = .int .i64 (k : Int) ∧ ∃ y : Later W0, wr = y.now) (fun i _ => n - (intOf i).toNat)
  case atStart => exact ⟨0, by omega, by go_num, ⟨_, Grows.refl _⟩, rfl⟩
  case round =>
    obtain ⟨k, hk, rfl, y, rfl⟩ := hrel
    by_cases hend : n ≤ k
    · go_wp2
      go_ret
      exact ⟨rfl, GG⟩
    · obtain ⟨b, off, rfl, hc⟩ := HA.out.edgesH (by omega)
      obtain ⟨b2, off2, rfl, hc2⟩ := HB.out.edgesH (by omega)
      obtain ⟨c1, c2, c3⟩ := hc k (by omega)
      obtain ⟨c4, c5, c6⟩ := hc2 k (by omega)
      clear hc hc2
      generalize ge E k = x at *
      obtain ⟨f, t, v⟩ := x
      dsimp only at c1 c2 c3 c4 c5 c6
      have heq := edge_eq f t v
      go_wp2_with fail
      ((first | refine wp_region_gen (by kernel_rfl) (by kernel_rfl) ?_); (repeat' (first | (refine gLex_val0 rfl (by kernel_rfl) (fun K hK => ?_); (go_simp; (try (simp only [↓IntWalk.iteOmega]; try go_simp)); (try simp (disch := omega) only [IntWalk.i64_in]); (try simp (disch := omega) only [IntWalk.u64_in]); first | (refine hK _ ?_; clear hK K) | (apply Exists.intro; refine ⟨fun x => ?_, hK _ ?_⟩; (first | fail); clear hK K))) | (refine gLex_undef rfl rfl rfl (by kernel_rfl) (fun K hK => ?_); go_simp; refine hK _ ?_; clear hK K) | (refine gLex_ask rfl rfl rfl ?_; first | (apply gAsk_yes; kernel_rfl; intro K hK; (go_simp; (try (simp only [↓IntWalk.iteOmega]; try go_simp)); (try simp (disch := omega) only [IntWalk.i64_in]); (try simp (disch := omega) only [IntWalk.u64_in]); first | (refine hK _ ?_; clear hK K) | (apply Exists.intro; refine ⟨fun x => ?_, hK _ ?_⟩; (first | fail); clear hK K))) | ((first | apply gAsk_no1 | apply gAsk_no2); kernel_rfl; intro K hK; simp [go_sem]; refine hK _ ?_; clear hK K) | (apply gAsk_part; kernel_rfl; all_goals (intro h K hK; (try simp only [Bool.not_true] at h); (try simp only [Bool.not_false] at h); (try simp only [decide_eq_true_eq] at h); (try simp only [decide_eq_false_iff_not] at h); first | (exfalso; first | contradiction | omega) | (go_simp; (try (simp only [↓IntWalk.iteOmega]; try go_simp)); (try simp (disch := omega) only [IntWalk.i64_in]); (try simp (disch := omega) only [IntWalk.u64_in]); first | (refine hK _ ?_; clear hK K) | (apply Exists.intro; refine ⟨fun x => ?_, hK _ ?_⟩; (first | fail); clear hK K))))))); all_goals ((apply gLex_end); intro x))
      go_wp2
      exact ⟨⟨k + 1, by omega, by go_num, Grows.later GG⟩, by simp [intOf]; omega⟩
end Go.Proofs.Ytomednfddpggaaa

/- The law BridgeCuts, walked: without which edges there are more parts, without which fewer nodes can be come to, and any graph without an edge. -/
namespace Go.Proofs.Ytomednfddpggaaa
open Go Go.RowKit
attribute [local go_sem] Oper.semAt_some
def IRow (L : List Int) : Pr := fun u w => ∃ A c, u = .slice A L.length c ∧ Rd w A 1 L.length (L.map (.int .i64))
theorem IRow.lasts (L : List Int) : Lasts (IRow L) := fun _ _ _ hg ⟨A, c, e, h⟩ => ⟨A, c, e, h.grows hg⟩
set_option maxRecDepth 40000 in
set_option maxHeartbeats 8000000 in
theorem bcCore (N s e : Int) (A : Option Addr) (n c : Nat) (w : World) (N' : Int) (F : List Edg) (f k d : Int) (l L : List Int) (hF : F.length ≤ 1000000) (hl : l.length ≤ 1000000) (hL : L.length ≤ 1000000)
    (CL : Hid (∀ W, Calls Try.prog 7 #[.agg #[.int .i64 N, .slice A n c]] W fun e w' => e = .returned (.bool true) ∧ Grows W w'))
    (CX : Hid (∀ W, Grows w W → Calls Try.prog 9 #[.agg #[.int .i64 N, .slice A n c], .int .i64 e] W fun x w' => ∃ A' c', x = .returned (.tuple #[.agg #[.int .i64 N', .slice A' F.length c'], .int .i64 f]) ∧ Rd w' A' 3 F.length (esCells F) ∧ Grows W w'))
    (CY : Hid (∀ W, Grows w W → Calls Try.prog 10 #[.agg #[.int .i64 N, .slice A n c], .int .i64 e] W fun x w' => ∃ A' c', x = .returned (.tuple #[.agg #[.int .i64 N', .slice A' F.length c'], .int .i64 f]) ∧ Rd w' A' 3 F.length (esCells F) ∧ Grows W w'))
    (CK : Hid (∀ W, Grows w W → Calls Try.prog 11 #[.agg #[.int .i64 N, .slice A n c], .int .i64 s] W fun x w' => ∃ A' c', x = .returned (.tuple #[.slice A' l.length c', .int .i64 k]) ∧ Rd w' A' 1 l.length (l.map (.int .i64)) ∧ Grows W w'))
    (CC : Hid (∀ W, Grows w W → Calls Try.prog 14 #[.agg #[.int .i64 N, .slice A n c]] W fun x w' => ∃ A' c', x = .returned (.slice A' L.length c') ∧ Rd w' A' 1 L.length (L.map (.int .i64)) ∧ Grows W w'))
    (CD : Hid (∀ W, Grows w W → Calls Try.prog 15 #[.agg #[.int .i64 N, .slice A n c]] W fun x w' => ∃ A' c', x = .returned (.slice A' L.length c') ∧ Rd w' A' 1 L.length (L.map (.int .i64)) ∧ Grows W w'))
    (C16 : Hid (∀ W, Grows w W → Calls Try.prog 16 #[.agg #[.int .i64 N, .slice A n c], .int .i64 s, .agg #[.bool false, .slice none 0 0, .slice none 0 0, .slice none 0 0, .int .u64 0]] W fun x w' => x = .returned (.int .i64 d) ∧ Grows W w'))
    (CN : Hid (d = 0 → ∀ W, Grows w W → Calls Try.prog 17 #[.agg #[.int .i64 N, .slice A n c], .int .i64 s] W fun x w' => ∃ A' c', x = .returned (.slice A' l.length c') ∧ Rd w' A' 1 l.length (l.map (.int .i64)) ∧ Grows W w'))
    (hd : Hid (d ≠ 0 → k = d ∧ l = [])) (hd0 : Hid (d = 0 → k = 0)) :
    Calls Try.prog 3 #[.agg #[.int .i64 N, .slice A n c], .int .i64 s, .int .i64 e] w fun e w' => e = .returned (.bool true) ∧ Grows w w' := by
  have CA := hide (fun (W : World) => alive48 W)
  go_enter Try.func3, Try.ntmps3
  go_upto_region 4 with (first
    | (go_at_call 7; refine (CL.out _).mono ?_; rintro e w' ⟨rfl, hg⟩; obtain ⟨x1, rfl⟩ := hg.later; clear hg)
    | (go_at_call 9; refine (CX.out _ GG).mono ?_; rintro e w' ⟨A2, c2, rfl, hr2, hg⟩; obtain ⟨x2, rfl⟩ := hg.later; have HR2 := hide hr2; clear hg hr2))
  have q1 : Arr (x2.now.alloc (.cells #[.int .i64 N', .slice A2 F.length c2] 24)) x2.now.heap.size 24 [.int .i64 N', .slice A2 F.length c2] := Arr.make _ _ _
  have HR2 := hide (HR2.out.grows (show Grows x2.now (x2.now.alloc (.cells #[.int .i64 N', .slice A2 F.length c2] 24)) from GG))
  have hgw : Grows w (x2.now.alloc (.cells #[.int .i64 N', .slice A2 F.length c2] 24)) := GG
  have p1 : Arr (x2.now.alloc (.cells #[.int .i64 N', .slice A2 F.length c2] 24)) w.heap.size 24 [.int .i64 N, .slice A n c] := (Arr.make w _ _).grow (show Grows (w.alloc (.cells #[.int .i64 N, .slice A n c] 24)) _ from GG)
  generalize x2.now.alloc (.cells #[.int .i64 N', .slice A2 F.length c2] 24) = W2 at *
  generalize x2.now.heap.size = b7 at *
  generalize w.heap.size = b3 at *
  go_upto_region 5 with (go_at_call 10; refine (CY.out _ (hgw.trans GG)).mono ?_; rintro e w' ⟨A4, c4, rfl, hr4, hg⟩; obtain ⟨x4, rfl⟩ := hg.later; have HR4 := hide hr4; clear hg hr4)
  go_upto_region 6 with (go_at_call 11; refine (CK.out _ (hgw.trans GG)).mono ?_; rintro e w' ⟨A6, c6, rfl, hr6, hg⟩; have HG6 := hide hg; obtain ⟨x6, rfl⟩ := Grows.later2 (((Grows.refl x4.now).new _).trans hg); have HR6 := hide hr6; clear hg hr6)
  have q9 : Arr x6.now x4.now.heap.size 24 [.int .i64 N', .slice A4 F.length c4] := (Arr.make x4.now _ _).grow HG6.out
  have HR4 := hide (HR4.out.grows (((Grows.refl x4.now).new _).trans HG6.out))
  generalize x4.now.heap.size = b9 at *
  have hff : (f != f) = false := by simp
  refine wp_region_gen (by kernel_rfl) (by kernel_rfl) ?_
  (repeat' (first | (refine gLex_val0 rfl (by kernel_rfl) (fun K hK => ?_); (go_simp; (try (simp only [↓IntWalk.iteOmega]; try go_simp)); (try simp (disch := omega) only [IntWalk.i64_in]); (try simp (disch := omega) only [IntWalk.u64_in]); first | (refine hK _ ?_; clear hK K) | (apply Exists.intro; refine ⟨fun x => ?_, hK _ ?_⟩; (first | (go_at_call 12; exact r5Same N' A2 F.length c2 A4 c4 F _ (HR2.out.grows GG) (HR4.out.grows GG) hF)); clear hK K))) | (refine gLex_undef rfl rfl rfl (by kernel_rfl) (fun K hK => ?_); go_simp; refine hK _ ?_; clear hK K) | (refine gLex_ask rfl rfl rfl ?_; first | (apply gAsk_yes; kernel_rfl; intro K hK; (go_simp; (try (simp only [↓IntWalk.iteOmega]; try go_simp)); (try simp (disch := omega) only [IntWalk.i64_in]); (try simp (disch := omega) only [IntWalk.u64_in]); first | (refine hK _ ?_; clear hK K) | (apply Exists.intro; refine ⟨fun x => ?_, hK _ ?_⟩; (first | (go_at_call 12; exact r5Same N' A2 F.length c2 A4 c4 F _ (HR2.out.grows GG) (HR4.out.grows GG) hF)); clear hK K))) | ((first | apply gAsk_no1 | apply gAsk_no2); kernel_rfl; intro K hK; simp [go_sem]; refine hK _ ?_; clear hK K))))
  refine gLex_propG (by kernel_rfl) (by kernel_rfl) rfl (by simp) (IRow L) (IRow.lasts _) (fun y => by
    go_simp
    refine (CC.out _ (hgw.trans GG)).mono ?_
    rintro e w' ⟨A', c', rfl, ha, hg⟩
    exact ⟨_, rfl, hg, A', c', rfl, ha⟩) ?_
  (repeat' (first | (refine gLex_val0 rfl (by kernel_rfl) (fun K hK => ?_); (go_simp; (try (simp only [↓IntWalk.iteOmega]; try go_simp)); (try simp (disch := omega) only [IntWalk.i64_in]); (try simp (disch := omega) only [IntWalk.u64_in]); first | (refine hK _ ?_; clear hK K) | (apply Exists.intro; refine ⟨fun x => ?_, hK _ ?_⟩; (first | fail); clear hK K))) | (refine gLex_undef rfl rfl rfl (by kernel_rfl) (fun K hK => ?_); go_simp; refine hK _ ?_; clear hK K) | (refine gLex_ask rfl rfl rfl ?_; first | (apply gAsk_yes; kernel_rfl; intro K hK; (go_simp; (try (simp only [↓IntWalk.iteOmega]; try go_simp)); (try simp (disch := omega) only [IntWalk.i64_in]); (try simp (disch := omega) only [IntWalk.u64_in]); first | (refine hK _ ?_; clear hK K) | (apply Exists.intro; refine ⟨fun x => ?_, hK _ ?_⟩; (first | fail); clear hK K))) | ((first | apply gAsk_no1 | apply gAsk_no2); kernel_rfl; intro K hK; simp [go_sem]; refine hK _ ?_; clear hK K))))
  refine gLex_propG (by kernel_rfl) (by kernel_rfl) rfl (by simp) (IRow L) (IRow.lasts _) (fun y => by
    go_simp
    refine (CD.out _ (hgw.trans GG)).mono ?_
    rintro e w' ⟨A', c', rfl, ha, hg⟩
    exact ⟨_, rfl, hg, A', c', rfl, ha⟩) ?_
  refine gLex_depV2 (t1 := 47) (t2 := 49) (by kernel_rfl) (by kernel_rfl) rfl rfl (by simp) (by simp) (by decide) (.bool true) (fun y u1 u2 h1 h2 => by
    obtain ⟨B1, d1, rfl, k1⟩ := h1
    obtain ⟨B2, d2, rfl, k2⟩ := h2
    go_simp
    have := r1Same B1 L.length d1 L B2 L.length d2 L _ k1 hL k2 hL
    rw [decide_eq_true rfl] at this
    exact this) ?_
  simp only [Act.put, List.setIfInBounds_toArray, List.set_cons_zero, List.set_cons_succ]
  (repeat' (first | (refine gLex_val0 rfl (by kernel_rfl) (fun K hK => ?_); (go_simp; (try (simp only [↓IntWalk.iteOmega]; try go_simp)); (try simp (disch := omega) only [IntWalk.i64_in]); (try simp (disch := omega) only [IntWalk.u64_in]); first | (refine hK _ ?_; clear hK K) | (apply Exists.intro; refine ⟨fun x => ?_, hK _ ?_⟩; (first | fail); clear hK K))) | (refine gLex_undef rfl rfl rfl (by kernel_rfl) (fun K hK => ?_); go_simp; refine hK _ ?_; clear hK K) | (refine gLex_ask rfl rfl rfl ?_; first | (apply gAsk_yes; kernel_rfl; intro K hK; (go_simp; (try (simp only [↓IntWalk.iteOmega]; try go_simp)); (try simp (disch := omega) only [IntWalk.i64_in]); (try simp (disch := omega) only [IntWalk.u64_in]); first | (refine hK _ ?_; clear hK K) | (apply Exists.intro; refine ⟨fun x => ?_, hK _ ?_⟩; (first | fail); clear hK K))) | ((first | apply gAsk_no1 | apply gAsk_no2); kernel_rfl; intro K hK; simp [go_sem]; refine hK _ ?_; clear hK K))))
  refine gLex_endB (fun x8 => ?_)
  refine AtB.pop rfl (by simp [Act.put]) (fun z1 _ => ?_)
  refine AtB.pop rfl (by simp [Act.put]) (fun z2 _ => ?_)
  refine AtB.base ?_
  simp only [Act.put, List.setIfInBounds_toArray, List.set_cons_zero, List.set_cons_succ]
  go_upto_region 9 with (go_at_call 16; refine (C16.out _ (hgw.trans GG)).mono ?_; rintro e w' ⟨rfl, hg⟩; obtain ⟨x9, rfl⟩ := hg.later; clear hg)
  have HR6 := hide (HR6.out.grows (x8.grows.trans x9.grows))
  clear HR2 HR4 CX CY CC CD CK C16 CL
  by_cases h0 : d = 0
  · have hk := hd0.out h0
    have CN1 := hide (CN.out h0)
    clear CN hd hd0
    subst h0 hk
    go_wp2_with (first
      | (go_at_call 17; refine (CN1.out _ (hgw.trans GG)).mono ?_; rintro e w' ⟨A9, c9, rfl, hr9, hg⟩; obtain ⟨x10, rfl⟩ := hg.later; have HR9 := hide hr9; clear hg hr9)
      | (go_at_call 13; refine (r1Same A6 l.length c6 l A9 l.length c9 l _ (HR6.out.grows GG) hl (HR9.out.grows GG) hl).mono ?_; rw [decide_eq_true rfl]; rintro e w' ⟨rfl, hg⟩; obtain ⟨x11, rfl⟩ := hg.later; clear hg)
      | (go_at_call 8; refine (CA.out _).mono ?_; rintro e w' ⟨rfl, hg⟩; obtain ⟨x12, rfl⟩ := hg.later; clear hg))
    go_ret
    exact ⟨rfl, hgw.trans GG⟩
  · obtain ⟨hk, hl0⟩ := hd.out h0
    have hb : (d != 0) = true := bne_iff_ne.2 h0
    clear CN hd hd0 h0
    subst hk hl0
    go_wp2_with (go_at_call 8; refine (CA.out _).mono ?_; rintro e w' ⟨rfl, hg⟩; obtain ⟨x10, rfl⟩ := hg.later; clear hg)
    go_ret
    exact ⟨rfl, hgw.trans GG⟩
theorem rd_nil (w : World) (size : Nat) : Rd w none size 0 [] := ⟨by simp, fun h => absurd h (by simp)⟩
set_option maxRecDepth 40000 in
set_option maxHeartbeats 8000000 in
theorem bridgeCutsW (N : Int) (A : Option Addr) (n c : Nat) (E : List Edg) (s e : Int) (w : World) (_ : I64 N) (_ : n ≤ c) (h : Rd w A 3 n (esCells E)) (_ : ∀ k, k < n → edgOk (ge E k)) (_ : I64 s) (_ : I64 e) :
    Calls Try.prog 3 #[.agg #[.int .i64 N, .slice A n c], .int .i64 s, .int .i64 e] w fun e w' => e = .returned (.bool true) ∧ Grows w w' := by
  have CL := hide (fun (W : World) => lLight48 N A n c W)
  have hel := h.elen
  subst hel
  cases hq : light48 N E.length with
  | false =>
    have CA := hide (fun (W : World) => alive48 W)
    rw [hq] at CL
    clear hq h
    go_enter Try.func3, Try.ntmps3
    go_wp2_with (first | (go_at_call 7; refine (CL.out _).mono ?_; rintro e w' ⟨rfl, hg⟩; obtain ⟨x1, rfl⟩ := hg.later; clear hg) | (go_at_call 8; refine (CA.out _).mono ?_; rintro e w' ⟨rfl, hg⟩; obtain ⟨x2, rfl⟩ := hg.later; clear hg))
    go_ret
    exact ⟨rfl, GG⟩
  | true =>
    rw [hq] at CL
    have hn : E.length ≤ 40 := by
      unfold light48 at hq
      simp only [Bool.and_eq_true, decide_eq_true_eq] at hq
      exact hq.2
    clear hq
    have C16 := hide (fun (W : World) (g : Grows w W) => show Calls Try.prog 16 #[.agg #[.int .i64 N, .slice A E.length c], .int .i64 s, .agg #[.bool false, .slice none 0 0, .slice none 0 0, .slice none 0 0, .int .u64 0]] W fun x w' => x = .returned (.int .i64 (dcF N s E [])) ∧ Grows W w' from
      r14Check N s A E.length c E false (.slice none 0 0) (.slice none 0 0) none 0 0 0 [] W (h.grows g) ⟨by simp [wv], fun h => absurd h (by simp)⟩ (by omega) (by omega))
    by_cases hr : rightF N E = 0
    · obtain ⟨r1, r2, r3, r4, r5⟩ := right_in hr
      obtain ⟨N', rfl⟩ : ∃ k : Nat, N = (k : Int) := ⟨N.toNat, by omega⟩
      rw [Int.toNat_natCast] at r4
      have hcl : cutsL N' E = fltL (moreB N' E) E.length := cutsL_is r4 (loops_no hr)
      have hLl : (fltL (moreB N' E) E.length).length ≤ 1000000 := by have := fltL_len (moreB N' E) E.length; omega
      have CC := hide (fun (W : World) (g : Grows w W) => by have := bwCuts N' A c E W (h.grows g) hr; rw [hcl] at this; exact this)
      have CD := hide (fun (W : World) (g : Grows w W) => r48Cuts N' A c E W (h.grows g) hr)
      have key : ∀ (F : List Edg) (M f : Int), F.length ≤ 1000000 → Hid (∀ W, Grows w W → Calls Try.prog 9 #[.agg #[.int .i64 (N' : Int), .slice A E.length c], .int .i64 e] W fun x w' => ∃ A' c', x = .returned (.tuple #[.agg #[.int .i64 M, .slice A' F.length c'], .int .i64 f]) ∧ Rd w' A' 3 F.length (esCells F) ∧ Grows W w') →
          Hid (∀ W, Grows w W → Calls Try.prog 10 #[.agg #[.int .i64 (N' : Int), .slice A E.length c], .int .i64 e] W fun x w' => ∃ A' c', x = .returned (.tuple #[.agg #[.int .i64 M, .slice A' F.length c'], .int .i64 f]) ∧ Rd w' A' 3 F.length (esCells F) ∧ Grows W w') →
          Calls Try.prog 3 #[.agg #[.int .i64 (N' : Int), .slice A E.length c], .int .i64 s, .int .i64 e] w fun e w' => e = .returned (.bool true) ∧ Grows w w' := fun F M f hF CX CY => by
        by_cases hs : 0 ≤ s ∧ s < N'
        · obtain ⟨s', rfl⟩ : ∃ k : Nat, s = (k : Int) := ⟨s.toNat, by omega⟩
          have hs' : s' < N' := by omega
          have hd := dc_none hr hs'
          have hll : (fltL (needB N' E s') E.length).length ≤ 1000000 := by have := fltL_len (needB N' E s') E.length; omega
          rw [hd] at C16
          refine bcCore (N' : Int) s' e A E.length c w M F f 0 0 _ _ hF hll hLl CL CX CY (hide fun W g => bwNeedsG N' s' A c E W (h.grows g) hr hs') CC CD C16 (hide fun _ W g => r48Needs N' s' A c E W (h.grows g) hr hs') (hide fun h => absurd rfl h) (hide fun _ => rfl)
        · have hd : dcF N' s E [] ≠ 0 := fun h0 => hs ⟨(dc_ok h0).2.1, (dc_ok h0).2.2.1⟩
          exact bcCore (N' : Int) s e A E.length c w M F f (dcF N' s E []) (dcF N' s E []) [] _ hF (by simp) hLl CL CX CY (hide fun W g => (bwNeedsNo N' s A E.length c E W (h.grows g) (by omega) hd).mono (by rintro x w' ⟨rfl, hg⟩; exact ⟨none, 0, rfl, rd_nil _ _, hg⟩)) CC CD C16 (hide fun h => absurd h hd) (hide fun _ => ⟨rfl, rfl⟩) (hide fun h => h)
      by_cases he : 0 ≤ e ∧ e < E.length
      · obtain ⟨e', rfl⟩ : ∃ k : Nat, e = (k : Int) := ⟨e.toNat, by omega⟩
        have he' : e' < E.length := by omega
        exact key (E.eraseIdx e') N' 0 (by have := List.length_eraseIdx_le E e'; omega) (hide fun W g => withoutW N' A c E e' W (h.grows g) hr he') (hide fun W g => r48Without N' A c E e' W (h.grows g) hr he')
      · exact key [] 0 8 (by simp) (hide fun W g => (withoutNoF N' A c E e W (h.grows g) (by omega) (.inr he)).mono (by rintro x w' ⟨rfl, hg⟩; rw [if_pos hr]; exact ⟨none, 0, rfl, rd_nil _ _, hg⟩)) (hide fun W g => (r48WithoutNo N' A c E e W (h.grows g) (by omega) (.inr he)).mono (by rintro x w' ⟨rfl, hg⟩; rw [if_pos hr]; exact ⟨none, 0, rfl, rd_nil _ _, hg⟩))
    · have hd : dcF N s E [] ≠ 0 := fun h0 => hr (dc_ok h0).1
      exact bcCore N s e A E.length c w 0 [] 1 (dcF N s E []) (dcF N s E []) [] [] (by simp) (by simp) (by simp) CL
        (hide fun W g => (withoutNoF N A c E e W (h.grows g) (by omega) (.inl hr)).mono (by rintro x w' ⟨rfl, hg⟩; rw [if_neg hr]; exact ⟨none, 0, rfl, rd_nil _ _, hg⟩))
        (hide fun W g => (r48WithoutNo N A c E e W (h.grows g) (by omega) (.inl hr)).mono (by rintro x w' ⟨rfl, hg⟩; rw [if_neg hr]; exact ⟨none, 0, rfl, rd_nil _ _, hg⟩))
        (hide fun W g => (bwNeedsNo N s A E.length c E W (h.grows g) (by omega) hd).mono (by rintro x w' ⟨rfl, hg⟩; exact ⟨none, 0, rfl, rd_nil _ _, hg⟩))
        (hide fun W g => (bwCutsNo N A E.length c E W (h.grows g) (by omega) hr).mono (by rintro x w' ⟨rfl, hg⟩; exact ⟨none, 0, rfl, rd_nil _ _, hg⟩))
        (hide fun W g => (r48CutsNo N A E.length c E W (h.grows g) (by omega) hr).mono (by rintro x w' ⟨rfl, hg⟩; exact ⟨none, 0, rfl, rd_nil _ _, hg⟩))
        C16 (hide fun h => absurd h hd) (hide fun _ => ⟨rfl, rfl⟩) (hide fun h => h)
end Go.Proofs.Ytomednfddpggaaa

/- The law BridgeCuts: for every input it returns true, and each argument reads as before. No condition. -/
namespace Go.Proofs.Ytomednfddpggaaa.lawBridgeCuts
open Go Go.ChangeShapes Go.WideShapes Go.ChangeAt Go.RowKit Go.Proofs.Ytomednfddpggaaa

theorem own : ownKnob Try.prog.godebug = none := by kernel_rfl
theorem laidOut : laidOutB Try.prog = true := by kernel_rfl

set_option maxRecDepth 100000 in
theorem lifted (os : Os) (started : os.Started) (H : Type) (enc : TypeId × Value → H) :
    ReturnsInHanded {} Try.checked os 3 .any (Rows.bridgeCutsSpec.pre6 enc Try.prog Try.f3 Rows.bridgeCutsRow.domain false) (Rows.bridgeCutsSpec.post enc Try.prog Try.f3 false true false false) := by
  refine returnsInHanded_of_change (C := Try.checked) own started (by kernel_rfl) Try.func3
    (ChangeSpec.witness6 (enc := enc) (C := Try.checked) false ⟨#[], #[.agg #[.int .i64 0, .slice none 0 0], .int .i64 0, .int .i64 0], []⟩ 8 (by kernel_rfl) (by kernel_rfl) (by kernel_rfl) (by kernel_rfl)) ?_
  intro W base args ds gs before hval0 hW hcnd _
  have hval : ∀ (j : Nat) t v, Try.f3.params[j]? = some t → args[j]? = some v → Value.okWide Try.prog W .any base t v := hval0
  have hW' := hW
  obtain ⟨p, q, hA0, hV, rfl, hfz, hnd⟩ := hW
  have hA : DataW.TrodAll enc Try.prog W 0 (fun _ => true) true Try.f3.params.toList args.toList ds p := hA0
  rw [Try.params3] at hA hval
  obtain ⟨v0, vs0, d0, ds0, p0, q0, hargs, rfl, rfl, h0, r0⟩ := trodAll_cons hA
  obtain ⟨v1, vs1, d1, ds1, p1, q1, rfl, rfl, rfl, h1, r1⟩ := trodAll_cons r0
  obtain ⟨v2, vs2, d2, ds2, p2, q2, rfl, rfl, rfl, h2, r2⟩ := trodAll_cons r1
  obtain ⟨rfl, rfl, rfl⟩ := trodAll_nil r2
  obtain rfl : args = #[v0, v1, v2] := by cases args; simp_all
  obtain ⟨rfl, rfl⟩ := trodVars_none hV
  have k0 := h0
  have lt0 : ∀ x ∈ p0, x.block < W.heap.size := by obtain ⟨m, hm⟩ := k0; exact DataW.trod_lt m _ _ _ hm
  obtain ⟨a0, A0, n0, c0, z0, rfl, x0, l0, w0, u0⟩ := open_graph Try.underlying24 Try.underlying3 Try.underlying22 Try.underlying68 Try.underlying3 Try.underlying3 Try.underlying38 ⟨rfl, rfl, rfl⟩ ⟨by kernel_rfl, by kernel_rfl, by kernel_rfl⟩ (by kernel_rfl) (by kernel_rfl) (by kernel_rfl) (hval 0 24 v0 rfl rfl) h0
  have k1 := h1
  have lt1 : ∀ x ∈ p1, x.block < W.heap.size := by obtain ⟨m, hm⟩ := k1; exact DataW.trod_lt m _ _ _ hm
  obtain ⟨a1, rfl, w1⟩ := open_i64 Try.underlying3 (hval 1 3 v1 rfl rfl) h1
  have k2 := h2
  have lt2 : ∀ x ∈ p2, x.block < W.heap.size := by obtain ⟨m, hm⟩ := k2; exact DataW.trod_lt m _ _ _ hm
  obtain ⟨a2, rfl, w2⟩ := open_i64 Try.underlying3 (hval 2 3 v2 rfl rfl) h2
  clear hA0 hval0
  refine (bridgeCutsW a0 A0 n0 c0 z0 a1 a2 W x0 l0 w0 u0 w1 w2).mono fun e W' ⟨he, bel⟩ => ?_
  subst he
  exact ⟨_, rfl, _, _, _, [], _, [], hW', trodAll_mk1 (shut_bool Try.underlying4 _), (trodAll_cons_mk (Below.trod laidOut (by kernel_rfl) (of_decide_eq_true (by kernel_rfl)) k0 bel lt0) (trodAll_cons_mk (Below.trod laidOut (by kernel_rfl) (of_decide_eq_true (by kernel_rfl)) k1 bel lt1) (trodAll_cons_mk (Below.trod laidOut (by kernel_rfl) (of_decide_eq_true (by kernel_rfl)) k2 bel lt2) trodAll_mk0))), rfl, Below.frame bel _, fun h => by cases h⟩

theorem over : Rows.bridgeCutsRow.holds Try.pinned (OpenSpec.ofChange Rows.bridgeCutsSpec) :=
  OpenClaim.holds_of_wide 3 Try.f3 rfl rfl rfl rfl rfl rfl rfl ⟨rfl, rfl, rfl, rfl, rfl⟩ rfl rfl rfl rfl rfl (by kernel_rfl) Try.func3 (by kernel_rfl)
    (of_decide_eq_true (by kernel_rfl)) (by unfold Func.isWrapper; first | (rw [if_pos (by decide +kernel)]; kernel_rfl) | (rw [if_neg (by decide +kernel)]; exact ⟨rfl, rfl⟩))
    (fun os started H enc _ => lifted os started H enc)

end Go.Proofs.Ytomednfddpggaaa.lawBridgeCuts
namespace Go.Proofs.Ytomednfddpggaaa
theorem bridgeCuts_proved : Rows.BridgeCutsSaid := lawBridgeCuts.over
#print axioms bridgeCuts_proved
end Go.Proofs.Ytomednfddpggaaa
