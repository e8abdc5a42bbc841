/- The law FlowRounds: for every input it returns true, and each argument reads as before. No condition. -/
import Derived.Test.YtkfobolbilhjbaaGreatQFlowRounds05
import Derived.Test.YtkfobolbilhjbaaGreatQFlowRounds10
import Derived.Test.YtkfobolbilhjbaaGreatQFlowRounds18
namespace Go.Proofs.YtkfobolbilhjbaaGreat
open Go Go.RowKit
attribute [local go_sem] Oper.semAt_some
structure FrI (b4 b6 b8 b11 : Nat) (N : Int) (A : Option Addr) (m c : Nat) (a b : Int) (W : List Nat) (Aw : Option Addr) (cw : Nat) (wr : World) : Prop where
  g : Arr wr b4 24 [.int .i64 N, .slice A m c]
  r : Arr wr b6 28 [.int .u64 a, .int .u64 b]
  x : ∃ u0 u1, Arr wr b8 33 [u0, u1]
  o : Arr wr b11 50 [.bool false, .slice none 0 0, .slice none 0 0, .slice Aw W.length cw, .int .u64 0]
  w : Own wr 0 26 1 Aw W.length cw (wv W)
theorem FrI.grow {b4 b6 b8 b11 m c cw : Nat} {N a b : Int} {A Aw : Option Addr} {W : List Nat} {y z : World} (h : FrI b4 b6 b8 b11 N A m c a b W Aw cw y) (hg : Grows y z) : FrI b4 b6 b8 b11 N A m c a b W Aw cw z :=
  ⟨h.g.grow hg, h.r.grow hg, by obtain ⟨u0, u1, h1⟩ := h.x; exact ⟨u0, u1, h1.grow hg⟩, h.o.grow hg, h.w.grows hg⟩
theorem FrI.put {b4 b6 b8 b11 m c cw : Nat} {N a b : Int} {A Aw : Option Addr} {W : List Nat} {y z : World} (h : FrI b4 b6 b8 b11 N A m c a b W Aw cw y) (hg : Grows y z) (n4 : b8 ≠ b4) (n6 : b8 ≠ b6) (n11 : b8 ≠ b11) (u0 u1 : Value) :
    FrI b4 b6 b8 b11 N A m c a b W Aw cw ((z.setCell ⟨b8, 0, none⟩ u0).setCell ⟨b8, 1, none⟩ u1) ∧ Arr ((z.setCell ⟨b8, 0, none⟩ u0).setCell ⟨b8, 1, none⟩ u1) b8 33 [u0, u1] := by
  have hz := h.grow hg
  obtain ⟨v0, v1, hx⟩ := hz.x
  have hx2 : Arr ((z.setCell ⟨b8, 0, none⟩ u0).setCell ⟨b8, 1, none⟩ u1) b8 33 [u0, u1] := (hx.set 0 u0).set 1 u1
  have ht : Touch (fun k => k = b8) z ((z.setCell ⟨b8, 0, none⟩ u0).setCell ⟨b8, 1, none⟩ u1) := ((Touch.refl (fun k => k = b8) z).set (p := ⟨b8, 0, none⟩) (.inl rfl) _).set (p := ⟨b8, 1, none⟩) (.inl rfl) _
  exact ⟨⟨(hz.g.other (p := ⟨b8, 0, none⟩) n4 u0).other (p := ⟨b8, 1, none⟩) n4 u1, (hz.r.other (p := ⟨b8, 0, none⟩) n6 u0).other (p := ⟨b8, 1, none⟩) n6 u1, ⟨u0, u1, hx2⟩, (hz.o.other (p := ⟨b8, 0, none⟩) n11 u0).other (p := ⟨b8, 1, none⟩) n11 u1, hz.w.touch ht (fun p hp => hz.w.not_arr hx (by decide) p hp)⟩, hx2⟩
theorem FrI.next {b4 b6 b8 b11 m c cw c9 : Nat} {N a b : Int} {A Aw A9 : Option Addr} {W W' : List Nat} {y z : World} (h : FrI b4 b6 b8 b11 N A m c a b W Aw cw y) (hg : Grows y z) (n4 : b11 ≠ b4) (n6 : b11 ≠ b6) (n8 : b11 ≠ b8) (ho : Own z 0 26 1 A9 W'.length c9 (wv W')) :
    FrI b4 b6 b8 b11 N A m c a b W' A9 c9 (z.setCell ⟨b11, 3, none⟩ (.slice A9 W'.length c9)) := by
  have hz := h.grow hg
  obtain ⟨v0, v1, hx⟩ := hz.x
  have ht : Touch (fun k => k = b11) z (z.setCell ⟨b11, 3, none⟩ (.slice A9 W'.length c9)) := (Touch.refl (fun k => k = b11) z).set (p := ⟨b11, 3, none⟩) (.inl rfl) _
  exact ⟨hz.g.other (p := ⟨b11, 3, none⟩) n4 _, hz.r.other (p := ⟨b11, 3, none⟩) n6 _, ⟨v0, v1, hx.other (p := ⟨b11, 3, none⟩) n8 _⟩, hz.o.set 3 _, ho.touch ht (fun p hp => ho.not_arr hz.o (by decide) p hp)⟩
theorem boxesF (w : World) (c1 c2 c3 : List Value) (t1 t2 t3 : TypeId) :
    Grows w (((w.alloc (.cells c1.toArray t1)).alloc (.cells c2.toArray t2)).alloc (.cells c3.toArray t3)) ∧ Arr (((w.alloc (.cells c1.toArray t1)).alloc (.cells c2.toArray t2)).alloc (.cells c3.toArray t3)) w.heap.size t1 c1 ∧ Arr (((w.alloc (.cells c1.toArray t1)).alloc (.cells c2.toArray t2)).alloc (.cells c3.toArray t3)) (w.heap.size + 1) t2 c2 ∧
    Arr (((w.alloc (.cells c1.toArray t1)).alloc (.cells c2.toArray t2)).alloc (.cells c3.toArray t3)) (w.heap.size + 1 + 1) t3 c3 := by
  have n : ∀ (X : World) (o : Obj), Grows X (X.alloc o) := fun X o => (Grows.refl X).new o
  have sz : ∀ (X : World) (o : Obj), (X.alloc o).heap.size = X.heap.size + 1 := fun X o => by simp
  refine ⟨((n _ _).trans (n _ _)).trans (n _ _), (Arr.make _ _ _).grow ((n _ _).trans (n _ _)), ?_, ?_⟩
  · have h := (Arr.make (w.alloc (.cells c1.toArray t1)) c2 t2).grow (n _ (.cells c3.toArray t3))
    rwa [sz] at h
  · have h := Arr.make ((w.alloc (.cells c1.toArray t1)).alloc (.cells c2.toArray t2)) c3 t3
    rwa [sz, sz] at h
set_option maxRecDepth 20000 in
set_option maxHeartbeats 8000000 in
theorem fRoundsGo (N : Int) (A : Option Addr) (n c : Nat) (Bd : Option Addr) (md dd : Nat) (a b : Int) (nn : Nat) (W : Nat → List Nat) (R : Nat → List Int × Int) (w : World) (h1 : 1 ≤ nn) (h2 : nn ≤ 100) (hW0 : W 0 = [])
    (CR : ∀ X, Grows w X → Calls Tryz.prog 15 #[.agg #[.int .i64 N, .slice A n c], .slice Bd md dd] X fun e w' => e = .returned (.int .i64 0) ∧ Grows X w')
    (CQ : ∀ X, Calls Tryz.prog 16 #[.agg #[.int .u64 a, .int .u64 b]] X fun e w' => e = .returned (.bool true) ∧ Grows X w')
    (CA : ∀ j X, Grows w X → ∀ (Aw : Option Addr) (cw : Nat), Rd X Aw 1 (W j).length (wv (W j)) → Calls Tryz.prog 14 #[.agg #[.int .i64 N, .slice A n c], .slice Bd md dd, .agg #[.bool false, .slice none 0 0, .slice none 0 0, .slice Aw (W j).length cw, .int .u64 0]] X fun e w' =>
      ∃ A' c' f, e = .returned (.tuple #[.agg #[.slice A' (R j).1.length c', .int .u64 (R j).2], .int .i64 f]) ∧ Rd w' A' 1 (R j).1.length (uv (R j).1) ∧ (∀ p, A' = some p → X.heap.size ≤ p.block) ∧ Grows X w')
    (CW : ∀ j X, Grows w X → ∀ (A8 : Option Addr) (c8 : Nat), Rd X A8 1 (R j).1.length (uv (R j).1) → Calls Tryz.prog 9 #[.agg #[.int .i64 N, .slice A n c], .slice A8 (R j).1.length c8, .agg #[.int .u64 a, .int .u64 b]] X fun e w' =>
      ∃ A' c' f, e = .returned (.tuple #[.slice A' (W (j + 1)).length c', .int .i64 f]) ∧ Own w' X.heap.size 26 1 A' (W (j + 1)).length c' (wv (W (j + 1))) ∧ Grows X w') :
    Calls Tryz.prog 6 #[.agg #[.int .i64 N, .slice A n c], .slice Bd md dd, .agg #[.int .u64 a, .int .u64 b], .int .i64 (nn : Int)] w (AsgP w (R (nn - 1)).1 (R (nn - 1)).2 0) := by
  have CR := hide CR
  have CQ := hide CQ
  have CA := hide CA
  have CW := hide CW
  have HW0 := hide hW0
  clear hW0
  unfold AsgP
  go_enter Tryz.func6, Tryz.ntmps6
  go_wp2_with fail
  obtain ⟨hg0, a4, a6, a8⟩ := boxesF w [.int .i64 N, .slice A n c] [.int .u64 a, .int .u64 b] [.slice none 0 0, .int .u64 0] 24 28 33
  obtain ⟨w0, hw0⟩ : ∃ w0, w0 = (((w.alloc (.cells #[.int .i64 N, .slice A n c] 24)).alloc (.cells #[.int .u64 a, .int .u64 b] 28)).alloc (.cells #[.slice none 0 0, .int .u64 0] 33)) := ⟨_, rfl⟩
  rw [← hw0]
  replace hg0 : Grows w w0 := by rw [hw0]; exact hg0
  replace a4 : Arr w0 w.heap.size 24 [.int .i64 N, .slice A n c] := by rw [hw0]; exact a4
  replace a6 : Arr w0 (w.heap.size + 1) 28 [.int .u64 a, .int .u64 b] := by rw [hw0]; exact a6
  replace a8 : Arr w0 (w.heap.size + 1 + 1) 33 [.slice none 0 0, .int .u64 0] := by rw [hw0]; exact a8
  clear hw0
  obtain ⟨b8, hb8⟩ : ∃ b, b = w.heap.size + 1 + 1 := ⟨_, rfl⟩
  have hs8 : w.heap.size ≤ b8 := by omega
  rw [← hb8] at a8 ⊢
  have hne48 : w.heap.size ≠ b8 := by omega
  have hne68 : w.heap.size + 1 ≠ b8 := by omega
  clear hb8
  obtain ⟨b6, hb6⟩ : ∃ b, b = w.heap.size + 1 := ⟨_, rfl⟩
  rw [← hb6] at a6 hne68 ⊢
  clear hb6
  obtain ⟨b4, hb4⟩ : ∃ b, b = w.heap.size := ⟨_, rfl⟩
  rw [← hb4] at a4 hne48 ⊢
  have HB4 := hide hb4
  clear hb4
  go_step3
  go_wp2_with (first
    | (go_at_call 15; refine (CR.out _ (hg0.trans GG)).mono ?_; rintro e w' ⟨rfl, hg⟩; obtain ⟨x1, rfl⟩ := hg.later; clear hg)
    | (go_at_call 16; refine (CQ.out _).mono ?_; rintro e w' ⟨rfl, hg⟩; obtain ⟨x2, rfl⟩ := hg.later; clear hg))
  obtain ⟨wb, hwb⟩ : ∃ W, W = x2.now.alloc (.cells #[.bool false, .slice none 0 0, .slice none 0 0, .slice none 0 0, .int .u64 0] 50) := ⟨_, rfl⟩
  have hg2 : Grows w0 x2.now := GG
  have h2b : Grows x2.now wb := by rw [hwb]; exact (Grows.refl _).new _
  have a11 : Arr wb x2.now.heap.size 50 [.bool false, .slice none 0 0, .slice none 0 0, .slice none 0 0, .int .u64 0] := by rw [hwb]; exact Arr.make _ _ _
  rw [← hwb]
  clear hwb
  have hs4 := a4.lt
  have hs6 := a6.lt
  have hs8b := a8.lt
  have hs02 := hg2.size
  obtain ⟨b11, hb11⟩ : ∃ b, b = x2.now.heap.size := ⟨_, rfl⟩
  rw [← hb11] at a11 hs02 ⊢
  clear hb11
  have m4 : b8 ≠ b4 := fun e => hne48 e.symm
  have m6 : b8 ≠ b6 := fun e => hne68 e.symm
  have n11 : b8 ≠ b11 := by omega
  have q4 : b11 ≠ b4 := by omega
  have q6 : b11 ≠ b6 := by omega
  have q8 : b11 ≠ b8 := by omega
  have hs11 : w.heap.size ≤ b11 := by have := hg0.size; omega
  have HST := hide (show FrI b4 b6 b8 b11 N A n c a b (W 0) none 0 wb from ⟨(a4.grow hg2).grow h2b, (a6.grow hg2).grow h2b, ⟨_, _, (a8.grow hg2).grow h2b⟩, by rw [HW0.out]; exact a11, by rw [HW0.out]; exact Own.nil _ _ _ _⟩)
  have hgb : Grows w wb := hg0.trans (hg2.trans h2b)
  obtain ⟨yb, rfl⟩ := hgb.later
  clear hgb h2b hg2 a11 a4 a6 a8 hs4 hs6 hs8b hs02 x1 x2 hg0 hne48 hne68 CR CQ HB4
  go_step3
  go_wp2_with fail
  go_loopw [3] (fun nv wr => ∃ (j k : Nat) (Aw : Option Addr) (cw : Nat), j + k + 1 = nn ∧ nv = .int .i64 ((k : Int) + 1) ∧ ∃ y : Later w, wr = y.now ∧ Hid (FrI b4 b6 b8 b11 N A n c a b (W j) Aw cw y.now)) (fun nv _ => (Go.RowKit.intOf nv).toNat)
  case atStart => exact ⟨0, nn - 1, none, 0, by omega, congrArg (Value.int .i64) (by omega), yb, rfl, HST⟩
  case round =>
    clear HST yb
    obtain ⟨j, k, Aw, cw, hjk, rfl, y, rfl, HI⟩ := hrel
    have k4 := HI.out.g
    have k6 := HI.out.r
    have k11 := HI.out.o
    obtain ⟨v0, v1, k8⟩ := HI.out.x
    have h8y : b8 < y.now.heap.size := k8.lt
    have h11y : b11 < y.now.heap.size := k11.lt
    have HJK := hide hjk
    clear hjk
    go_upto_region 10 with (go_at_call 14; refine (CA.out j _ (y.grows.trans GG) Aw cw (HI.out.w.grows GG).rd).mono ?_; rintro e w' ⟨A8, c8, f8, rfl, hr8, hlo, hg⟩; obtain ⟨z1, rfl⟩ := hg.later; have HR8 := hide hr8; have HLO := hide hlo; clear hg hr8 hlo)
    have hgz : Grows y.now z1.now := GG
    have HP := hide (HI.out.put hgz m4 m6 n11 (.slice A8 (R j).1.length c8) (.int .u64 (R j).2))
    obtain ⟨W9, hW9⟩ : ∃ W9, W9 = (z1.now.setCell ⟨b8, 0, none⟩ (.slice A8 (R j).1.length c8)).setCell ⟨b8, 1, none⟩ (.int .u64 (R j).2) := ⟨_, rfl⟩
    have HR9 := hide (show Rd W9 A8 1 (R j).1.length (uv (R j).1) from by
      rw [hW9]
      exact HR8.out.touch (((Touch.refl (fun k => k = b8) z1.now).set (p := ⟨b8, 0, none⟩) (.inl rfl) _).set (p := ⟨b8, 1, none⟩) (.inl rfl) _) (fun p hp e => by have := HLO.out p hp; omega))
    have hg9 : Grows w W9 := by rw [hW9]; exact ((y.grows.trans hgz).set (p := ⟨b8, 0, none⟩) (by omega) _).set (p := ⟨b8, 1, none⟩) (by omega) _
    rw [← hW9] at HP ⊢
    clear hW9
    have hz1 := hgz.size
    clear k4 k6 k8 k11
    have k4 := HP.out.1.g
    have k6 := HP.out.1.r
    have k8 := HP.out.2
    have k11 := HP.out.1.o
    have HI9 := hide HP.out.1
    have HNE := hide (fun p (hp : A8 = some p) => show p.block ≠ b8 from fun e => by have := HLO.out p hp; omega)
    have HLW := hide (fun p hp => show w.heap.size ≤ p.block from Nat.le_trans y.grows.size (HLO.out p hp))
    obtain ⟨y9, rfl⟩ := hg9.later
    clear hgz hg9 HP HI HR8 z1 HLO hz1 h8y h11y
    rcases Nat.eq_zero_or_pos k with hk | hk
    · subst hk
      have HJ := hide (show j = nn - 1 by have := HJK.out; omega)
      go_wp2_with fail
      rw [Exit.noGoto_ret]
      have hj := HJ.out
      subst hj
      refine bodyPost_ret (v := .tuple #[.agg #[.slice A8 (R (nn - 1)).1.length c8, .int .u64 (R (nn - 1)).2], .int .i64 0]) (by simp (maxDischargeDepth := 6) [results, Tryz.results6, go_sem, *]) rfl ?_
      exact ⟨A8, c8, rfl, HR9.out.touch (((Touch.refl (fun k => k = b8) y9.now).set (p := ⟨b8, 0, none⟩) (.inl rfl) _).set (p := ⟨b8, 1, none⟩) (.inl rfl) _) (fun p hp e => HNE.out p hp e), HLW.out, ((y9.grows).set (p := ⟨b8, 0, none⟩) (by omega) _).set (p := ⟨b8, 1, none⟩) (by omega) _⟩
    · obtain ⟨k', rfl⟩ : ∃ k', k = k' + 1 := ⟨k - 1, by omega⟩
      have hkb : ((k' : Int) + 1 == 0) = false := beq_eq_false_iff_ne.2 (by omega)
      have hkl : k' ≤ 100 := by have := HJK.out; omega
      clear hk
      simp only [Int.natCast_add, Int.natCast_one]
      go_upto_region 12 with fail
      go_wp2_with (go_at_call 9; refine (CW.out j _ (y9.grows.trans GG) A8 c8 (HR9.out.grows GG)).mono ?_; rintro e w' ⟨A9, c9, f9, rfl, ho9, hg⟩; obtain ⟨z2, rfl⟩ := hg.later; have HO9 := hide ho9; clear hg ho9)
      go_roundw
      case measure => simp [Go.RowKit.intOf]; omega
      case rel =>
        have hgz : Grows y9.now z2.now := GG
        have hgn : Grows w (z2.now.setCell ⟨b11, 3, none⟩ (.slice A9 (W (j + 1)).length c9)) := (y9.grows.trans hgz).set (p := ⟨b11, 3, none⟩) hs11 _
        exact ⟨j + 1, k', A9, c9, by have := HJK.out; omega, congrArg (Value.int .i64) (by omega), ⟨_, hgn⟩, rfl, hide (HI9.out.next hgz q4 q6 q8 (HO9.out.base (Nat.zero_le _)))⟩
theorem addAt_lt (n : Int) : ∀ (es : List Nat) (L : List Int), (∀ z ∈ L, z < 18446744073709551616) → ∀ z ∈ addAt L n es, z < 18446744073709551616
  | [], L, h => h
  | e :: es, L, h => addAt_lt n es _ (fun z hz => by
      unfold addOne at hz
      rcases List.mem_or_eq_of_mem_set hz with h1 | h1
      · exact h z h1
      · rw [h1]
        unfold IntKind.wrap
        simp [IntKind.bits, IntKind.signed]
        omega)
theorem asgS_lt (D : List Edg) (P : Ways) (m : Nat) : ∀ k, ∀ z ∈ (asgS D P m k).1, z < 18446744073709551616
  | 0 => fun z hz => by
    have : z = 0 := List.eq_of_mem_replicate hz
    omega
  | k + 1 => by
    unfold asgS
    split
    · exact addAt_lt _ _ _ (asgS_lt D P m k)
    · exact asgS_lt D P m k
theorem ldN_lt (N : Int) (E D : List Edg) (o : DOpt) (P : Ways) (i : Nat) : gn (ldN (asgR N E D o P)) i < 18446744073709551616 := by
  have key : ∀ z ∈ (asgR N E D o P).1, z < 18446744073709551616 := by
    unfold asgR
    split
    · intro z hz; cases hz
    split
    · intro z hz; cases hz
    · exact asgS_lt _ _ _ _
  unfold gn ldN
  rw [List.getD_eq_getElem?_getD, List.getElem?_map]
  cases hq : (asgR N E D o P).1[i]? with
  | none => simp
  | some z =>
    have h1 := key z (List.mem_of_getElem? hq)
    simp
    omega
set_option maxRecDepth 20000 in
set_option maxHeartbeats 8000000 in
theorem fRounds (N : Int) (A : Option Addr) (c : Nat) (E : List Edg) (Bd : Option Addr) (dd : Nat) (D : List Edg) (a b n : Int) (W : Nat → List Nat) (P : Nat → Ways) (w : World) (h : Rd w A 3 E.length (esCells E)) (hD : Rd w Bd 3 D.length (esCells D)) (hn : E.length ≤ 1000000) (hd : D.length ≤ 1000000) (hO : RdOk N E D a b W P) :
    Calls Tryz.prog 6 #[.agg #[.int .i64 N, .slice A E.length c], .slice Bd D.length dd, .agg #[.int .u64 a, .int .u64 b], .int .i64 n] w (AsgP w (rdR N E D a b n W P).1 (rdR N E D a b n W P).2.1 (rdR N E D a b n W P).2.2) := by
  have C1 := hide (fun (X : World) (g : Grows w X) => fRight N A c E Bd dd D X (h.grows g) (hD.grows g) hn hd)
  have C2 := hide (fun (X : World) => ratioRight a b X)
  by_cases hf : rdF N E D a b n = 0
  · have h1 : fRightF N E D = 0 := by
      unfold rdF at hf
      split at hf
      · rename_i h9; exact absurd hf h9
      · omega
    have h2 : rrB a b = true := by
      cases e : rrB a b with
      | true => rfl
      | false =>
        unfold rdF at hf
        rw [if_neg (by omega), if_pos e] at hf
        cases hf
    have h3 : 1 ≤ n ∧ n ≤ 100 := by
      unfold rdF at hf
      rw [if_neg (by omega), h2, if_neg (by simp)] at hf
      split at hf
      · cases hf
      · omega
    obtain ⟨nn, rfl⟩ : ∃ nn : Nat, n = (nn : Int) := ⟨n.toNat, by omega⟩
    have e1 : rdR N E D a b (nn : Int) W P = ((asgR N E D ⟨false, [], [], W (nn - 1), 0⟩ (P (nn - 1))).1, (asgR N E D ⟨false, [], [], W (nn - 1), 0⟩ (P (nn - 1))).2.1, 0) := by
      unfold rdR
      rw [if_neg (by omega), Int.toNat_natCast]
    rw [e1]
    have hz : Rd w none 1 0 ([] : List Value) := ⟨rfl, fun h => absurd h (by omega)⟩
    refine fRoundsGo N A E.length c Bd D.length dd a b nn W (fun j => ((asgR N E D ⟨false, [], [], W j, 0⟩ (P j)).1, (asgR N E D ⟨false, [], [], W j, 0⟩ (P j)).2.1)) w (by omega) (by omega) hO.w0 (fun X g => ?_) (fun X => ?_) (fun j X g Aw cw hw => ?_) (fun j X g A8 c8 h8 => ?_)
    · have := C1.out X g
      rw [h1] at this
      exact this
    · have := C2.out X
      rw [h2] at this
      exact this
    · refine (fAssign N A c E Bd dd D ⟨false, [], [], W j, 0⟩ none none Aw 0 0 cw (P j) X (h.grows g) (hD.grows g) (hz.grows g) (hz.grows g) hw hn (show (W j).length ≤ 1000000 by have := hO.wlen j; omega) hd (hO.ps j)).mono ?_
      rintro e w' ⟨A', c', e1, e2, e3, e4⟩
      exact ⟨A', c', _, e1, e2, e3, e4⟩
    · have hln := asgR_len N E D ⟨false, [], [], W j, 0⟩ (P j)
      have hnn := asgR_nn N E D ⟨false, [], [], W j, 0⟩ (P j)
      rw [uv_nat hnn] at h8
      refine (fWeights N A E.length c E A8 (asgR N E D ⟨false, [], [], W j, 0⟩ (P j)).1.length c8 (ldN (asgR N E D ⟨false, [], [], W j, 0⟩ (P j))) a b X (h.grows g) hn h8 (by omega) (ldN_lt N E D _ _)).mono ?_
      rintro e w' ⟨A', c', e1, e2, e3⟩
      rw [← hO.ws j] at e1 e2
      exact ⟨A', c', _, e1, e2, e3⟩
  · have e1 : rdR N E D a b n W P = ([], 0, rdF N E D a b n) := by unfold rdR; rw [if_pos hf]
    rw [e1]
    unfold rdF
    clear h hD hO e1
    unfold rdF at hf
    generalize fRightF N E D = f at *
    generalize rrB a b = rr at *
    generalize E.length = m at *
    generalize D.length = md at *
    unfold AsgP
    have hz : ∀ X, Rd X none 1 0 (uv []) := fun X => ⟨rfl, fun h => absurd h (by omega)⟩
    by_cases h1 : f = 0
    · subst h1
      rw [if_neg (by omega)]
      cases rr with
      | false =>
        rw [if_pos rfl]
        go_enter Tryz.func6, Tryz.ntmps6
        go_wp2_with fail
        go_step3
        go_wp2_with (first
          | (go_at_call 15; refine (C1.out _ GG).mono ?_; rintro e w' ⟨rfl, hg⟩; obtain ⟨x1, rfl⟩ := hg.later; clear hg)
          | (go_at_call 16; refine (C2.out _).mono ?_; rintro e w' ⟨rfl, hg⟩; obtain ⟨x2, rfl⟩ := hg.later; clear hg))
        rw [Exit.noGoto_ret]
        refine bodyPost_ret (v := .tuple #[.agg #[.slice none 0 0, .int .u64 0], .int .i64 1]) (by simp (maxDischargeDepth := 6) [results, Tryz.results6, go_sem, *]) rfl ?_
        exact ⟨none, 0, rfl, hz _, fun p hp => (by cases hp), GG⟩
      | true =>
        rw [if_neg (by simp)]
        by_cases h3 : n < 1
        · rw [if_pos (.inl h3)]
          go_enter Tryz.func6, Tryz.ntmps6
          go_wp2_with fail
          go_step3
          go_wp2_with (first
            | (go_at_call 15; refine (C1.out _ GG).mono ?_; rintro e w' ⟨rfl, hg⟩; obtain ⟨x1, rfl⟩ := hg.later; clear hg)
            | (go_at_call 16; refine (C2.out _).mono ?_; rintro e w' ⟨rfl, hg⟩; obtain ⟨x2, rfl⟩ := hg.later; clear hg))
          rw [Exit.noGoto_ret]
          refine bodyPost_ret (v := .tuple #[.agg #[.slice none 0 0, .int .u64 0], .int .i64 2]) (by simp (maxDischargeDepth := 6) [results, Tryz.results6, go_sem, *]) rfl ?_
          exact ⟨none, 0, rfl, hz _, fun p hp => (by cases hp), GG⟩
        · by_cases h4 : 100 < n
          · rw [if_pos (.inr h4)]
            have h3' : 1 ≤ n := by omega
            clear h3
            go_enter Tryz.func6, Tryz.ntmps6
            go_wp2_with fail
            go_step3
            go_wp2_with (first
              | (go_at_call 15; refine (C1.out _ GG).mono ?_; rintro e w' ⟨rfl, hg⟩; obtain ⟨x1, rfl⟩ := hg.later; clear hg)
              | (go_at_call 16; refine (C2.out _).mono ?_; rintro e w' ⟨rfl, hg⟩; obtain ⟨x2, rfl⟩ := hg.later; clear hg))
            rw [Exit.noGoto_ret]
            refine bodyPost_ret (v := .tuple #[.agg #[.slice none 0 0, .int .u64 0], .int .i64 2]) (by simp (maxDischargeDepth := 6) [results, Tryz.results6, go_sem, *]) rfl ?_
            exact ⟨none, 0, rfl, hz _, fun p hp => (by cases hp), GG⟩
          · rw [if_neg (by omega), if_neg (by simp), if_neg (by omega)] at hf
            exact absurd rfl hf
    · rw [if_pos h1]
      have hfb : (f != 0) = true := by simpa using h1
      clear h1
      go_enter Tryz.func6, Tryz.ntmps6
      go_wp2_with fail
      go_step3
      go_wp2_with (go_at_call 15; refine (C1.out _ GG).mono ?_; rintro e w' ⟨rfl, hg⟩; obtain ⟨x1, rfl⟩ := hg.later; clear hg)
      rw [Exit.noGoto_ret]
      refine bodyPost_ret (v := .tuple #[.agg #[.slice none 0 0, .int .u64 0], .int .i64 f]) (by simp (maxDischargeDepth := 6) [results, Tryz.results6, go_sem, *]) rfl ?_
      exact ⟨none, 0, rfl, hz _, fun p hp => (by cases hp), GG⟩
end Go.Proofs.YtkfobolbilhjbaaGreat

namespace Go.Proofs.YtkfobolbilhjbaaGreat
open Go Go.RowKit
attribute [local go_sem] Oper.semAt_some
structure FrR (b4 b6 b8 b11 lo : Nat) (N : Int) (A : Option Addr) (m c : Nat) (a b : Int) (L : List Int) (lost : Int) (A8 : Option Addr) (c8 : Nat) (wr : World) : Prop where
  g : Arr wr b4 24 [.int .i64 N, .slice A m c]
  r : Arr wr b6 28 [.int .u64 a, .int .u64 b]
  z : Arr wr b8 39 [.slice none 0 0, .int .u64 0]
  x : Arr wr b11 39 [.slice A8 L.length c8, .int .u64 lost]
  l : Rd wr A8 1 L.length (uv L)
  lo_ : ∀ p, A8 = some p → lo ≤ p.block
  ne : 0 < L.length → ∀ p, A8 = some p → p.block ≠ b8 ∧ p.block ≠ b11
theorem FrR.grow {b4 b6 b8 b11 lo m c c8 : Nat} {N a b lost : Int} {A A8 : Option Addr} {L : List Int} {y z : World} (h : FrR b4 b6 b8 b11 lo N A m c a b L lost A8 c8 y) (hg : Grows y z) : FrR b4 b6 b8 b11 lo N A m c a b L lost A8 c8 z :=
  ⟨h.g.grow hg, h.r.grow hg, h.z.grow hg, h.x.grow hg, h.l.grows hg, h.lo_, h.ne⟩
theorem FrR.put {b4 b6 b8 b11 lo m c c8 c9 : Nat} {N a b lost lost' : Int} {A A8 A9 : Option Addr} {L L' : List Int} {y z : World} (h : FrR b4 b6 b8 b11 lo N A m c a b L lost A8 c8 y) (hg : Grows y z) (n4 : b11 ≠ b4) (n6 : b11 ≠ b6) (n8 : b11 ≠ b8) (hr : Rd z A9 1 L'.length (uv L')) (hlo : ∀ p, A9 = some p → lo ≤ p.block) (hne : 0 < L'.length → ∀ p, A9 = some p → p.block ≠ b8 ∧ p.block ≠ b11) :
    FrR b4 b6 b8 b11 lo N A m c a b L' lost' A9 c9 ((z.setCell ⟨b11, 0, none⟩ (.slice A9 L'.length c9)).setCell ⟨b11, 1, none⟩ (.int .u64 lost')) := by
  have hz := h.grow hg
  have ht : Touch (fun k => k = b11) z ((z.setCell ⟨b11, 0, none⟩ (.slice A9 L'.length c9)).setCell ⟨b11, 1, none⟩ (.int .u64 lost')) := ((Touch.refl (fun k => k = b11) z).set (p := ⟨b11, 0, none⟩) (.inl rfl) _).set (p := ⟨b11, 1, none⟩) (.inl rfl) _
  exact ⟨(hz.g.other (p := ⟨b11, 0, none⟩) n4 _).other (p := ⟨b11, 1, none⟩) n4 _, (hz.r.other (p := ⟨b11, 0, none⟩) n6 _).other (p := ⟨b11, 1, none⟩) n6 _, (hz.z.other (p := ⟨b11, 0, none⟩) n8 _).other (p := ⟨b11, 1, none⟩) n8 _, (hz.x.set 0 _).set 1 _, hr.touch0 ht (fun h0 p hp e => (hne h0 p hp).2 e), hlo, hne⟩
set_option maxRecDepth 20000 in
set_option maxHeartbeats 8000000 in
theorem r47RoundsGo (N : Int) (A : Option Addr) (n c : Nat) (Bd : Option Addr) (md dd : Nat) (a b : Int) (nn : Nat) (W : Nat → List Nat) (R : Nat → List Int × Int) (w : World) (h1 : 1 ≤ nn) (h2 : nn ≤ 100) (hW0 : W 0 = [])
    (CR : ∀ X, Grows w X → Calls Tryz.prog 17 #[.agg #[.int .i64 N, .slice A n c], .slice Bd md dd] X fun e w' => e = .returned (.int .i64 0) ∧ Grows X w')
    (CQ : ∀ X, Calls Tryz.prog 18 #[.agg #[.int .u64 a, .int .u64 b]] X fun e w' => e = .returned (.bool true) ∧ Grows X w')
    (CA : ∀ j X, Grows w X → ∀ (Aw : Option Addr) (cw : Nat), Rd X Aw 1 (W j).length (wv (W j)) → Calls Tryz.prog 19 #[.agg #[.int .i64 N, .slice A n c], .slice Bd md dd, .agg #[.bool false, .slice none 0 0, .slice none 0 0, .slice Aw (W j).length cw, .int .u64 0]] X fun e w' =>
      ∃ A' c' f, e = .returned (.tuple #[.agg #[.slice A' (R j).1.length c', .int .u64 (R j).2], .int .i64 f]) ∧ Rd w' A' 1 (R j).1.length (uv (R j).1) ∧ (∀ p, A' = some p → X.heap.size ≤ p.block) ∧ Grows X w')
    (CW : ∀ j X, Grows w X → ∀ (A8 : Option Addr) (c8 : Nat), Rd X A8 1 (R j).1.length (uv (R j).1) → Calls Tryz.prog 10 #[.agg #[.int .i64 N, .slice A n c], .slice A8 (R j).1.length c8, .agg #[.int .u64 a, .int .u64 b]] X fun e w' =>
      ∃ A' c' f, e = .returned (.tuple #[.slice A' (W (j + 1)).length c', .int .i64 f]) ∧ Own w' X.heap.size 26 1 A' (W (j + 1)).length c' (wv (W (j + 1))) ∧ Grows X w') :
    Calls Tryz.prog 8 #[.agg #[.int .i64 N, .slice A n c], .slice Bd md dd, .agg #[.int .u64 a, .int .u64 b], .int .i64 (nn : Int)] w (AsgP w (R (nn - 1)).1 (R (nn - 1)).2 0) := by
  have CA0 := hide (fun (X : World) (g : Grows w X) => show Calls Tryz.prog 19 #[.agg #[.int .i64 N, .slice A n c], .slice Bd md dd, .agg #[.bool false, .slice none 0 0, .slice none 0 0, .slice none 0 0, .int .u64 0]] X fun e w' =>
      ∃ A' c' f, e = .returned (.tuple #[.agg #[.slice A' (R 0).1.length c', .int .u64 (R 0).2], .int .i64 f]) ∧ Rd w' A' 1 (R 0).1.length (uv (R 0).1) ∧ (∀ p, A' = some p → X.heap.size ≤ p.block) ∧ Grows X w' from by
    have := CA 0 X g none 0 (by rw [hW0]; exact ⟨rfl, fun h => absurd h (by simp)⟩)
    rw [hW0] at this
    exact this)
  have CR := hide CR
  have CQ := hide CQ
  have CA := hide CA
  have CW := hide CW
  clear hW0
  unfold AsgP
  go_enter Tryz.func8, Tryz.ntmps8
  go_upto_region 1 with fail
  obtain ⟨hg0, a4, a6, a8⟩ := boxesF w [.int .i64 N, .slice A n c] [.int .u64 a, .int .u64 b] [.slice none 0 0, .int .u64 0] 24 28 39
  obtain ⟨w0, hw0⟩ : ∃ w0, w0 = (((w.alloc (.cells #[.int .i64 N, .slice A n c] 24)).alloc (.cells #[.int .u64 a, .int .u64 b] 28)).alloc (.cells #[.slice none 0 0, .int .u64 0] 39)) := ⟨_, rfl⟩
  rw [← hw0]
  replace hg0 : Grows w w0 := by rw [hw0]; exact hg0
  replace a4 : Arr w0 w.heap.size 24 [.int .i64 N, .slice A n c] := by rw [hw0]; exact a4
  replace a6 : Arr w0 (w.heap.size + 1) 28 [.int .u64 a, .int .u64 b] := by rw [hw0]; exact a6
  replace a8 : Arr w0 (w.heap.size + 1 + 1) 39 [.slice none 0 0, .int .u64 0] := by rw [hw0]; exact a8
  clear hw0
  obtain ⟨b8, hb8⟩ : ∃ b, b = w.heap.size + 1 + 1 := ⟨_, rfl⟩
  have hs8 : w.heap.size ≤ b8 := by omega
  rw [← hb8] at a8 ⊢
  clear hb8
  obtain ⟨b6, hb6⟩ : ∃ b, b = w.heap.size + 1 := ⟨_, rfl⟩
  rw [← hb6] at a6 ⊢
  clear hb6
  obtain ⟨b4, hb4⟩ : ∃ b, b = w.heap.size := ⟨_, rfl⟩
  rw [← hb4] at a4 ⊢
  clear hb4
  go_upto_region 9 with (first
    | (go_at_call 17; refine (CR.out _ (hg0.trans GG)).mono ?_; rintro e w' ⟨rfl, hg⟩; obtain ⟨x1, rfl⟩ := hg.later; clear hg)
    | (go_at_call 18; refine (CQ.out _).mono ?_; rintro e w' ⟨rfl, hg⟩; obtain ⟨x2, rfl⟩ := hg.later; clear hg)
    | (go_at_call 19; refine (CA0.out _ (hg0.trans GG)).mono ?_; rintro e w' ⟨A8, c8, f8, rfl, hr8, hlo, hg⟩; obtain ⟨x3, rfl⟩ := hg.later; have HR8 := hide hr8; have HLO := hide hlo; clear hg hr8 hlo))
  obtain ⟨wb, hwb⟩ : ∃ W, W = x3.now.alloc (.cells #[.slice A8 (R 0).1.length c8, .int .u64 (R 0).2] 39) := ⟨_, rfl⟩
  have hg3 : Grows w0 x3.now := GG
  have h3b : Grows x3.now wb := by rw [hwb]; exact (Grows.refl _).new _
  have a11 : Arr wb x3.now.heap.size 39 [.slice A8 (R 0).1.length c8, .int .u64 (R 0).2] := by rw [hwb]; exact Arr.make _ _ _
  rw [← hwb]
  clear hwb
  have hs4 := a4.lt
  have hs6 := a6.lt
  have hs8b := a8.lt
  have hs03 := hg3.size
  have hs02 : w0.heap.size ≤ x2.now.heap.size := (show Grows w0 x2.now from GG).size
  have hlt8 := HR8.out.block_lt (by omega)
  obtain ⟨b11, hb11⟩ : ∃ b, b = x3.now.heap.size := ⟨_, rfl⟩
  rw [← hb11] at a11 hs03 hlt8 ⊢
  clear hb11
  have hsw := hg0.size
  have q4 : b11 ≠ b4 := by omega
  have q6 : b11 ≠ b6 := by omega
  have q8 : b11 ≠ b8 := by omega
  have hs11 : w.heap.size ≤ b11 := by omega
  have HST := hide (show FrR b4 b6 b8 b11 w.heap.size N A n c a b (R 0).1 (R 0).2 A8 c8 wb from ⟨(a4.grow hg3).grow h3b, (a6.grow hg3).grow h3b, (a8.grow hg3).grow h3b, a11, HR8.out.grows h3b, fun p hp => by have := HLO.out p hp; omega, fun h0 p hp => by have := HLO.out p hp; have := hlt8 h0 p hp; exact ⟨by omega, by omega⟩⟩)
  have hgb : Grows w wb := hg0.trans (hg3.trans h3b)
  have HB8 := hide (show b4 < b11 ∧ b6 < b11 ∧ b8 < b11 by omega)
  obtain ⟨yb, rfl⟩ := hgb.later
  clear hgb h3b hg3 a11 a4 a6 a8 hs4 hs6 hs8b hs02 hs03 hg0 CR CQ CA0 HR8 HLO hlt8 hsw
  go_wp2_with fail
  go_loopw [13] (fun iv wr => ∃ (i : Nat) (A8 : Option Addr) (c8 : Nat), i + 1 ≤ nn ∧ iv = .int .i64 ((i : Int) + 1) ∧ ∃ y : Later w, wr = y.now ∧ Hid (FrR b4 b6 b8 b11 w.heap.size N A n c a b (R i).1 (R i).2 A8 c8 y.now)) (fun iv _ => nn - (Go.RowKit.intOf iv).toNat)
  case atStart => exact ⟨0, A8, c8, by omega, by go_num, yb, rfl, HST⟩
  case round =>
    clear HST yb
    obtain ⟨i, A8, c8, hi, rfl, y, rfl, HI⟩ := hrel
    have k4 := HI.out.g
    have k6 := HI.out.r
    have k8 := HI.out.z
    have k11 := HI.out.x
    by_cases hlt : i + 1 < nn
    · go_upto_region 13 with (go_at_call 10; refine (CW.out i _ (y.grows.trans GG) A8 c8 (HI.out.l.grows GG)).mono ?_; rintro e w' ⟨A9, c9, f9, rfl, ho9, hg⟩; obtain ⟨z2, rfl⟩ := hg.later; have HO9 := hide ho9; clear hg ho9)
      go_upto_region 14 with (go_at_call 19; refine (CA.out (i + 1) _ (y.grows.trans GG) A9 c9 (HO9.out.grows GG).rd).mono ?_; rintro e w' ⟨A7, c7, f7, rfl, hr7, hlo, hg⟩; obtain ⟨z3, rfl⟩ := hg.later; have HR7 := hide hr7; have HLO := hide hlo; clear hg hr7 hlo)
      obtain ⟨W16, hW16⟩ : ∃ X, X = z3.now.alloc (.cells #[.slice A7 (R (i + 1)).1.length c7, .int .u64 (R (i + 1)).2] 39) := ⟨_, rfl⟩
      have hgz : Grows y.now z3.now := GG
      have hz2 : y.now.heap.size ≤ z2.now.heap.size := z2.size
      have hg16 : Grows z3.now W16 := by rw [hW16]; exact (Grows.refl _).new _
      have a16 : Arr W16 z3.now.heap.size 39 [.slice A7 (R (i + 1)).1.length c7, .int .u64 (R (i + 1)).2] := by rw [hW16]; exact Arr.make _ _ _
      rw [← hW16]
      clear hW16
      generalize z3.now.heap.size = b16 at *
      have hb8y := k8.lt
      have hb11y := k11.lt
      have HP := hide (HI.out.put (lost' := (R (i + 1)).2) (c9 := c7) (hgz.trans hg16) q4 q6 q8 (HR7.out.grows hg16) (fun p hp => by have := HLO.out p hp; have := y.grows.size; omega) (fun _ p hp => by have := HLO.out p hp; exact ⟨by omega, by omega⟩))
      have k11' := (HI.out.grow (hgz.trans hg16)).x
      have hgw : Grows w W16 := (y.grows.trans hgz).trans hg16
      have hgs := hgw.size
      clear k4 k6 k8 k11 HI HO9 HR7 HLO hgz hg16 hz2 z2 z3 hb8y hb11y
      obtain ⟨y16, rfl⟩ := hgw.later
      go_wp2_with fail
      go_roundw
      case measure => simp [Go.RowKit.intOf]; omega
      case rel => exact ⟨i + 1, A7, c7, by omega, by go_num, ⟨_, ((y16.grows).set (p := ⟨b11, 0, none⟩) hs11 _).set (p := ⟨b11, 1, none⟩) hs11 _⟩, rfl, HP⟩
    · have hin := hide (show i = nn - 1 by omega)
      go_wp2_with fail
      have hj := hin.out
      subst hj
      refine bodyPost_ret (v := .tuple #[.agg #[.slice A8 (R (nn - 1)).1.length c8, .int .u64 (R (nn - 1)).2], .int .i64 0]) (by simp (maxDischargeDepth := 6) [results, Tryz.results8, go_sem, *]) rfl ?_
      exact ⟨A8, c8, rfl, HI.out.l.touch0 (((Touch.refl (fun k => k = b8) y.now).set (p := ⟨b8, 0, none⟩) (.inl rfl) _).set (p := ⟨b8, 1, none⟩) (.inl rfl) _) (fun h0 p hp e => (HI.out.ne h0 p hp).1 e), HI.out.lo_, ((y.grows).set (p := ⟨b8, 0, none⟩) hs8 _).set (p := ⟨b8, 1, none⟩) hs8 _⟩
set_option maxRecDepth 20000 in
set_option maxHeartbeats 8000000 in
theorem r47Rounds (N : Int) (A : Option Addr) (c : Nat) (E : List Edg) (Bd : Option Addr) (dd : Nat) (D : List Edg) (a b n : Int) (W : Nat → List Nat) (P : Nat → Ways) (w : World) (h : Rd w A 3 E.length (esCells E)) (hD : Rd w Bd 3 D.length (esCells D)) (hn : E.length ≤ 1000000) (hd : D.length ≤ 1000000) (hO : RdOk N E D a b W P) (ua : U64 a) :
    Calls Tryz.prog 8 #[.agg #[.int .i64 N, .slice A E.length c], .slice Bd D.length dd, .agg #[.int .u64 a, .int .u64 b], .int .i64 n] w (AsgP w (rdR N E D a b n W P).1 (rdR N E D a b n W P).2.1 (rdR N E D a b n W P).2.2) := by
  have C1 := hide (fun (X : World) (g : Grows w X) => r47Right N A c E Bd dd D X (h.grows g) (hD.grows g) hn hd)
  have C2 := hide (fun (X : World) => rRight a b X ua)
  by_cases hf : rdF N E D a b n = 0
  · have h1 : fRightF N E D = 0 := by
      unfold rdF at hf
      split at hf
      · rename_i h9; exact absurd hf h9
      · omega
    have h2 : rrB a b = true := by
      cases e : rrB a b with
      | true => rfl
      | false =>
        unfold rdF at hf
        rw [if_neg (by omega), if_pos e] at hf
        cases hf
    have h3 : 1 ≤ n ∧ n ≤ 100 := by
      unfold rdF at hf
      rw [if_neg (by omega), h2, if_neg (by simp)] at hf
      split at hf
      · cases hf
      · omega
    obtain ⟨nn, rfl⟩ : ∃ nn : Nat, n = (nn : Int) := ⟨n.toNat, by omega⟩
    have e1 : rdR N E D a b (nn : Int) W P = ((asgR N E D ⟨false, [], [], W (nn - 1), 0⟩ (P (nn - 1))).1, (asgR N E D ⟨false, [], [], W (nn - 1), 0⟩ (P (nn - 1))).2.1, 0) := by
      unfold rdR
      rw [if_neg (by omega), Int.toNat_natCast]
    rw [e1]
    have hz : Rd w none 1 0 ([] : List Value) := ⟨rfl, fun h => absurd h (by omega)⟩
    refine r47RoundsGo N A E.length c Bd D.length dd a b nn W (fun j => ((asgR N E D ⟨false, [], [], W j, 0⟩ (P j)).1, (asgR N E D ⟨false, [], [], W j, 0⟩ (P j)).2.1)) w (by omega) (by omega) hO.w0 (fun X g => ?_) (fun X => ?_) (fun j X g Aw cw hw => ?_) (fun j X g A8 c8 h8 => ?_)
    · have := C1.out X g
      rw [h1] at this
      exact this
    · have := C2.out X
      rw [h2] at this
      exact this
    · refine (r47Assign N A c E Bd dd D ⟨false, [], [], W j, 0⟩ none none Aw 0 0 cw (P j) X (h.grows g) (hD.grows g) (hz.grows g) (hz.grows g) hw hn (show (W j).length ≤ 1000000 by have := hO.wlen j; omega) hd (hO.ps j)).mono ?_
      rintro e w' ⟨A', c', e1, e2, e3, e4⟩
      exact ⟨A', c', _, e1, e2, e3, e4⟩
    · have hln := asgR_len N E D ⟨false, [], [], W j, 0⟩ (P j)
      have hnn := asgR_nn N E D ⟨false, [], [], W j, 0⟩ (P j)
      rw [uv_nat hnn] at h8
      refine (r47Weights N A E.length c E A8 (asgR N E D ⟨false, [], [], W j, 0⟩ (P j)).1.length c8 (ldN (asgR N E D ⟨false, [], [], W j, 0⟩ (P j))) a b X (h.grows g) hn h8 (by omega) (ldN_lt N E D _ _) ua).mono ?_
      rintro e w' ⟨A', c', e1, e2, e3⟩
      rw [← hO.ws j] at e1 e2
      exact ⟨A', c', _, e1, e2, e3⟩
  · have e1 : rdR N E D a b n W P = ([], 0, rdF N E D a b n) := by unfold rdR; rw [if_pos hf]
    rw [e1]
    unfold rdF
    clear h hD hO e1
    unfold rdF at hf
    generalize fRightF N E D = f at *
    generalize rrB a b = rr at *
    generalize E.length = m at *
    generalize D.length = md at *
    unfold AsgP
    have hz : ∀ X, Rd X none 1 0 (uv []) := fun X => ⟨rfl, fun h => absurd h (by omega)⟩
    by_cases h1 : f = 0
    · subst h1
      rw [if_neg (by omega)]
      cases rr with
      | false =>
        rw [if_pos rfl]
        go_enter Tryz.func8, Tryz.ntmps8
        go_wp2_with (first
          | (go_at_call 17; refine (C1.out _ GG).mono ?_; rintro e w' ⟨rfl, hg⟩; obtain ⟨x1, rfl⟩ := hg.later; clear hg)
          | (go_at_call 18; refine (C2.out _).mono ?_; rintro e w' ⟨rfl, hg⟩; obtain ⟨x2, rfl⟩ := hg.later; clear hg))
        refine bodyPost_ret (v := .tuple #[.agg #[.slice none 0 0, .int .u64 0], .int .i64 1]) (by simp (maxDischargeDepth := 6) [results, Tryz.results8, go_sem, *]) rfl ?_
        exact ⟨none, 0, rfl, hz _, fun p hp => (by cases hp), GG⟩
      | true =>
        rw [if_neg (by simp)]
        by_cases h3 : n < 1
        · rw [if_pos (.inl h3)]
          go_enter Tryz.func8, Tryz.ntmps8
          go_wp2_with (first
            | (go_at_call 17; refine (C1.out _ GG).mono ?_; rintro e w' ⟨rfl, hg⟩; obtain ⟨x1, rfl⟩ := hg.later; clear hg)
            | (go_at_call 18; refine (C2.out _).mono ?_; rintro e w' ⟨rfl, hg⟩; obtain ⟨x2, rfl⟩ := hg.later; clear hg))
          refine bodyPost_ret (v := .tuple #[.agg #[.slice none 0 0, .int .u64 0], .int .i64 2]) (by simp (maxDischargeDepth := 6) [results, Tryz.results8, go_sem, *]) rfl ?_
          exact ⟨none, 0, rfl, hz _, fun p hp => (by cases hp), GG⟩
        · by_cases h4 : 100 < n
          · rw [if_pos (.inr h4)]
            have h3' : 1 ≤ n := by omega
            clear h3
            go_enter Tryz.func8, Tryz.ntmps8
            go_wp2_with (first
              | (go_at_call 17; refine (C1.out _ GG).mono ?_; rintro e w' ⟨rfl, hg⟩; obtain ⟨x1, rfl⟩ := hg.later; clear hg)
              | (go_at_call 18; refine (C2.out _).mono ?_; rintro e w' ⟨rfl, hg⟩; obtain ⟨x2, rfl⟩ := hg.later; clear hg))
            refine bodyPost_ret (v := .tuple #[.agg #[.slice none 0 0, .int .u64 0], .int .i64 2]) (by simp (maxDischargeDepth := 6) [results, Tryz.results8, go_sem, *]) rfl ?_
            exact ⟨none, 0, rfl, hz _, fun p hp => (by cases hp), GG⟩
          · rw [if_neg (by omega), if_neg (by simp), if_neg (by omega)] at hf
            exact absurd rfl hf
    · rw [if_pos h1]
      have hfb : (f != 0) = true := by simpa using h1
      clear h1
      go_enter Tryz.func8, Tryz.ntmps8
      go_wp2_with (go_at_call 17; refine (C1.out _ GG).mono ?_; rintro e w' ⟨rfl, hg⟩; obtain ⟨x1, rfl⟩ := hg.later; clear hg)
      refine bodyPost_ret (v := .tuple #[.agg #[.slice none 0 0, .int .u64 0], .int .i64 f]) (by simp (maxDischargeDepth := 6) [results, Tryz.results8, go_sem, *]) rfl ?_
      exact ⟨none, 0, rfl, hz _, fun p hp => (by cases hp), GG⟩
end Go.Proofs.YtkfobolbilhjbaaGreat

namespace Go.Proofs.YtkfobolbilhjbaaGreat
open Go Go.RowKit
theorem rdR_nn (N : Int) (E D : List Edg) (a b n : Int) (W : Nat → List Nat) (P : Nat → Ways) : ∀ z ∈ (rdR N E D a b n W P).1, 0 ≤ z := by
  unfold rdR
  split
  · intro z hz; cases hz
  · exact asgR_nn _ _ _ _ _
theorem rdR_len (N : Int) (E D : List Edg) (a b n : Int) (W : Nat → List Nat) (P : Nat → Ways) : (rdR N E D a b n W P).1.length ≤ E.length := by
  unfold rdR
  split
  · exact Nat.zero_le _
  · exact asgR_len _ _ _ _ _
set_option maxRecDepth 40000 in
set_option maxHeartbeats 16000000 in
theorem flowRoundsW (N : Int) (A : Option Addr) (n c : Nat) (E : List Edg) (Bd : Option Addr) (m d : Nat) (D : List Edg) (a b k : Int) (A4 : Option Addr) (n4 c4 : Nat) (z4 : List Int) (w : World)
    (_ : I64 N) (_ : n ≤ c) (h : Rd w A 3 n (esCells E)) (_ : ∀ k, k < n → edgOk (ge E k)) (_ : m ≤ d) (hD : Rd w Bd 3 m (esCells D)) (_ : ∀ k, k < m → edgOk (ge D k)) (ua : U64 a) (_ : U64 b) (_ : I64 k) (_ : n4 ≤ c4) (h4 : Rd w A4 1 n4 (z4.map (.int .u64))) (hwf : ∀ z ∈ z4, (Lit.int .u64 z).wf = true) :
    Calls Tryz.prog 3 #[.agg #[.int .i64 N, .slice A n c], .slice Bd m d, .agg #[.int .u64 a, .int .u64 b], .int .i64 k, .slice A4 n4 c4] w fun e w' => e = .returned (.bool true) ∧ Grows w w' := by
  rw [wv_of hwf] at h4
  have hW4 : ∀ i, gn (z4.map Int.toNat) i < 18446744073709551616 := fun i => by
    unfold gn
    rw [List.getD_eq_getElem?_getD, List.getElem?_map]
    cases hq : z4[i]? with
    | none => simp
    | some z =>
      have h1 := wf_u64 (hwf z (List.mem_of_getElem? hq))
      unfold U64 at h1
      simp
      omega
  generalize z4.map Int.toNat = W4 at h4 hW4
  have e3 : W4.length = n4 := h4.wlen
  have e4 : E.length = n := h.elen
  have e5 : D.length = m := hD.elen
  subst e3 e4 e5
  have CM := fun (W1 : World) => lLight47 N A E.length c Bd D.length d W1
  have C5 := hide (fun (W1 : World) => alive47 W1)
  by_cases hno : light47 N E.length D.length = false ∨ 100 < W4.length ∨ (8 < k ∧ k ≤ 100)
  · clear h hD h4 hW4 hwf
    generalize light47 N E.length D.length = lg at *
    generalize E.length = n at *
    generalize D.length = m at *
    generalize W4.length = n4 at *
    have hcs : lg = false ∨ (lg = true ∧ 100 < n4) ∨ (lg = true ∧ n4 ≤ 100 ∧ 8 < k ∧ k ≤ 100) := by
      cases lg with
      | false => exact .inl rfl
      | true =>
        rcases hno with h | h | h
        · cases h
        · exact .inr (.inl ⟨rfl, h⟩)
        · rcases Nat.lt_or_ge 100 n4 with h2 | h2
          · exact .inr (.inl ⟨rfl, h2⟩)
          · exact .inr (.inr ⟨rfl, h2, h.1, h.2⟩)
    clear hno
    have H0 := hide CM
    clear CM
    rcases hcs with rfl | ⟨rfl, q1⟩ | ⟨rfl, q1, q2, q3⟩
    all_goals
      go_enter Tryz.func3, Tryz.ntmps3
      go_wp2_with (first | (go_at_call 4; refine (H0.out _).mono ?_; rintro e w' ⟨rfl, hg⟩; (first | obtain ⟨x, rfl⟩ := Grows.later2 hg | obtain ⟨x, rfl⟩ := Grows.later hg); clear hg) | (go_at_call 5; refine (C5.out _).mono ?_; rintro e w' ⟨rfl, hg⟩; (first | obtain ⟨x, rfl⟩ := Grows.later2 hg | obtain ⟨x, rfl⟩ := Grows.later hg); clear hg))
      go_ret
      exact ⟨rfl, GG⟩
  · have hq0 : light47 N E.length D.length = true := by
      cases e : light47 N E.length D.length with
      | false => exact absurd (.inl e) hno
      | true => rfl
    have q1 : W4.length ≤ 100 := by
      rcases Nat.lt_or_ge 100 W4.length with h2 | h2
      · exact absurd (.inr (.inl h2)) hno
      · exact h2
    have q2 : k ≤ 8 ∨ (8 < k ∧ 100 < k) := by
      by_cases h1 : k ≤ 8
      · exact .inl h1
      · by_cases h2 : k ≤ 100
        · exact absurd (.inr (.inr ⟨by omega, h2⟩)) hno
        · exact .inr ⟨by omega, by omega⟩
    clear hno
    rw [hq0] at CM
    have H0 := hide CM
    have hsz : E.length ≤ 60 ∧ D.length ≤ 2000 := by
      unfold light47 at hq0
      simp at hq0
      omega
    clear CM hq0
    have hn : E.length ≤ 1000000 := by omega
    have hd : D.length ≤ 1000000 := by omega
    obtain ⟨W, P, hO⟩ := rounds_any N E D a b
    have hLl := rdR_len N E D a b k W P
    have hLn := rdR_nn N E D a b k W P
    have K1 := hide (fun (W1 : World) (Bq : Option Addr) (dq : Nat) (g : Grows w W1) (hq : Rd W1 Bq 3 D.length (esCells D)) => fRounds N A c E Bq dq D a b k W P W1 (h.grows g) hq hn hd hO)
    have K2 := hide (fun (W1 : World) (g : Grows w W1) => r47Rounds N A c E Bd d D a b k W P W1 (h.grows g) (hD.grows g) hn hd hO ua)
    have K3 := hide (fun (W1 : World) (g : Grows w W1) => law47of Bd D.length d D W1 (hD.grows g) hd)
    have K4 := hide (fun (W1 : World) (g : Grows w W1) => fWeights N A E.length c E A4 W4.length c4 W4 a b W1 (h.grows g) hn (h4.grows g) (by omega) hW4)
    have K5 := hide (fun (W1 : World) (g : Grows w W1) => r47Weights N A E.length c E A4 W4.length c4 W4 a b W1 (h.grows g) hn (h4.grows g) (by omega) hW4 ua)
    have hwl := wfR_len N E W4 a b
    generalize wfF N E W4 a b = wf at *
    generalize wfR N E W4 a b = wr at *
    have K7 := hide (fun (X : World) (B1 B2 : Option Addr) (d1 d2 : Nat) (q1 : Rd X B1 1 wr.length (wv wr)) (q2 : Rd X B2 1 wr.length (wv wr)) => show Calls Tryz.prog 12 #[.slice B1 wr.length d1, .slice B2 wr.length d2] X fun e w' => e = .returned (.bool true) ∧ Grows X w' from by
      have hq := r1Wide B1 _ d1 wr B2 _ d2 wr X q1 q2 (by omega) (by omega)
      rwa [decide_eq_true rfl] at hq)
    clear h hD h4 hW4 hO
    generalize rdR N E D a b k W P = R at *
    obtain ⟨L, lost, fr⟩ := R
    dsimp only at K1 K2 hLl hLn
    have hln : L.length ≤ 1000000 := by omega
    have K6 := hide (fun (W1 : World) (A8 A9 : Option Addr) (c8 c9 : Nat) (q1 : Rd W1 A8 1 L.length (uv L)) (q2 : Rd W1 A9 1 L.length (uv L)) => show Calls Tryz.prog 11 #[.agg #[.slice A8 L.length c8, .int .u64 lost], .agg #[.slice A9 L.length c9, .int .u64 lost]] W1 fun e w' => e = .returned (.bool true) ∧ Grows W1 w' from by
      rw [uv_nat hLn] at q1 q2
      have e9 : (L.map Int.toNat).length = L.length := by simp
      have := law47same A8 c8 (L.map Int.toNat) lost A9 c9 W1 (by rw [e9]; exact q1) (by rw [e9]; exact q2) (by rw [e9]; exact hln)
      rw [e9] at this
      exact this)
    clear hLl hLn hln hn hd hwl
    generalize E.length = n at *
    generalize W4.length = n4 at *
    rcases q2 with q2 | ⟨q2, q3⟩
    all_goals
      go_enter Tryz.func3, Tryz.ntmps3
      go_upto_region 1 with fail
      obtain ⟨w0, hw0⟩ : ∃ W, W = (w.alloc (.cells #[.int .i64 N, .slice A n c] 24)).alloc (.cells #[.int .u64 a, .int .u64 b] 28) := ⟨_, rfl⟩
      have hg0 : Grows w w0 := by rw [hw0]; exact ((Grows.refl _).new _).new _
      have b5 : Arr w0 w.heap.size 24 [.int .i64 N, .slice A n c] := by rw [hw0]; exact (Arr.make w _ _).grow ((Grows.refl _).new _)
      have b7 : Arr w0 (w.heap.size + 1) 28 [.int .u64 a, .int .u64 b] := by
        rw [hw0]
        have h := Arr.make (w.alloc (.cells #[.int .i64 N, .slice A n c] 24)) [.int .u64 a, .int .u64 b] 28
        have e : (w.alloc (.cells #[.int .i64 N, .slice A n c] 24)).heap.size = w.heap.size + 1 := by simp
        rwa [e] at h
      rw [← hw0]
      clear hw0
      generalize w.heap.size + 1 = x7 at *
      obtain ⟨x5, hx5⟩ : ∃ b, b = w.heap.size := ⟨_, rfl⟩
      rw [← hx5] at b5 ⊢
      clear hx5
      go_upto_region 3 with (go_at_call 4; refine (H0.out _).mono ?_; rintro e w' ⟨rfl, hg⟩; obtain ⟨x1, rfl⟩ := hg.later; clear hg)
      refine wp_region_box (bxS 9 10 7 11 44 33 [.slice none 0 0, .int .u64 0]) (by kernel_rfl) (by kernel_rfl) (by kernel_rfl) (fun oa os h1 h2 => by injection h1 with h1; injection h2 with h2; subst h1 h2; exact bxS_runs (by kernel_rfl) rfl rfl) ?_
      (repeat' (refine gLexX_val0 rfl (by kernel_rfl) (by kernel_rfl) (fun K hK => ?_); go_simp; (try (simp only [↓IntWalk.iteOmega]; try go_simp)); (try simp (disch := omega) only [IntWalk.i64_in]); (try simp (disch := omega) only [IntWalk.u64_in]); first | (refine hK _ ?_; clear hK K) | (apply Exists.intro; refine ⟨fun x => ?_, hK _ ?_⟩; (first | fail); clear hK K)))
      refine gLexX_prop rfl (by kernel_rfl) (by kernel_rfl) rfl (by simp) (DemQ D.length D) (fun x S hS => ?_) ?_
      · go_simp
        refine (K3.out _ (hg0.trans GG)).mono ?_
        rintro e w' ⟨A8, c8, rfl, ho, hg⟩
        exact ⟨_, rfl, hg, fun w'' ht => ⟨A8, c8, rfl, (ho.noBox (fun k hk => (hS k hk).2) ht).rd⟩⟩
      (repeat' (refine gLexX_val0 rfl (by kernel_rfl) (by kernel_rfl) (fun K hK => ?_); go_simp; (try (simp only [↓IntWalk.iteOmega]; try go_simp)); (try simp (disch := omega) only [IntWalk.i64_in]); (try simp (disch := omega) only [IntWalk.u64_in]); first | (refine hK _ ?_; clear hK K) | (apply Exists.intro; refine ⟨fun x => ?_, hK _ ?_⟩; (first | fail); clear hK K)))
      refine gLexX_depW (t0 := 40) rfl (by kernel_rfl) (by kernel_rfl) rfl (by simp) rfl (by simp) (PairQ (RepQ 0 L.length (uv L) lost) (.int .i64 fr)) (fun x S v hS hv => ?_) ?_
      · obtain ⟨Aq, cq, rfl, hq⟩ := hv
        go_simp
        refine (K1.out _ _ _ (hg0.trans GG) hq).mono ?_
        rintro e w' ⟨A8, c8, rfl, ho, hlo, hg⟩
        exact ⟨_, rfl, hg, fun w'' ht => ⟨_, rfl, A8, c8, rfl, ho.noBox hlo (fun k hk => (hS k hk).2) ht, fun p hp => Nat.zero_le _⟩⟩
      refine gLexX_pair (by kernel_rfl) ⟨rfl, rfl, rfl, rfl, rfl, rfl⟩ ⟨rfl, rfl, rfl, rfl, rfl⟩ ⟨rfl, rfl, rfl, rfl, rfl⟩ (by decide) rfl (by decide) rfl (by simp) (by kernel_rfl) (by kernel_rfl) (by kernel_rfl) (by kernel_rfl) (by kernel_rfl) (by kernel_rfl) ?good ?_
      case good =>
        rintro v w1 ⟨A8, c8, rfl, _⟩
        exact ⟨_, rfl, rfl, by simp [Value.oneCell']⟩
      refine gLexX_end (fun y3 S b11 hb11 => ?_)
      refine AtX.pop rfl (by simp) (fun z1 hz1 => ?_)
      obtain rfl : z1 = _ := hz1
      refine AtX.pop rfl (by simp [Act.put]) (fun z2 _ => ?_)
      refine AtX.pop rfl (by simp [Act.put]) (fun z3 hz3 => ?_)
      obtain rfl : z3 = _ := hz3
      refine AtX.pop rfl (by simp [Act.put]) (fun z4 hz4 => ?_)
      obtain ⟨A8, c8, rfl, ho8, _⟩ := hz4
      refine AtX.pop rfl (by simp [Act.put]) (fun z5 _ => ?_)
      refine AtX.pop rfl (by simp [Act.put]) (fun z6 _ => ?_)
      refine AtX.pop rfl (by simp [Act.put]) (fun z7 _ => ?_)
      refine AtX.base (by simp [Act.put, bxS]; rfl) (by simp [Act.put, bxS]; rfl) (fun e9 ha7 => ?_)
      subst e9
      simp only [Act.put, List.setIfInBounds_toArray, List.set_cons_zero, List.set_cons_succ]
      have a11 : Arr y3.now b11 33 [.slice A8 L.length c8, .int .u64 lost] := ha7
      have HO8 := hide ho8
      clear ha7 ho8 hb11
      go_wp2_with (first
        | (go_at_call 8; refine (K2.out _ (hg0.trans GG)).mono ?_; rintro e w' ⟨A9, c9, rfl, ho9, _, hg⟩; obtain ⟨x4, rfl⟩ := hg.later; have HO9 := hide ho9; clear hg ho9)
        | (go_at_call 9; refine (K4.out _ (hg0.trans GG)).mono ?_; rintro e w' ⟨A6, c6, rfl, ho6, hg⟩; obtain ⟨x5_, rfl⟩ := hg.later; have HO6 := hide ho6; clear hg ho6)
        | (go_at_call 10; refine (K5.out _ (hg0.trans GG)).mono ?_; rintro e w' ⟨A7, c7, rfl, ho7, hg⟩; obtain ⟨x6, rfl⟩ := hg.later; have HO7 := hide ho7; clear hg ho7)
        | (go_at_call 11; refine (K6.out _ _ _ _ _ (HO8.out.grows GG) (HO9.out.grows GG)).mono ?_; rintro e w' ⟨rfl, hg⟩; obtain ⟨x8, rfl⟩ := hg.later; clear hg)
        | (go_at_call 12; refine (K7.out _ _ _ _ _ (HO6.out.grows GG).rd (HO7.out.grows GG).rd).mono ?_; rintro e w' ⟨rfl, hg⟩; obtain ⟨x9, rfl⟩ := hg.later; clear hg)
        | (go_at_call 5; refine (C5.out _).mono ?_; rintro e w' ⟨rfl, hg⟩; obtain ⟨x10, rfl⟩ := hg.later; clear hg))
      go_ret
      exact ⟨rfl, hg0.trans GG⟩
end Go.Proofs.YtkfobolbilhjbaaGreat

namespace Go.Proofs.YtkfobolbilhjbaaGreat
open Go Go.ChangeShapes Go.WideShapes Go.ChangeAt Go.RowKit
section
variable {H : Type} {enc : TypeId × Value → H} {P : Program} {w : World} {base b0 : Nat} {held : Bool} {r : Reach} {t : TypeId} {v : Value} {d : DataW H} {p : List MemPlace}
theorem open_dems {te : TypeId} {f0 f1 f2 : Field} (ht : P.underlying t = some (.slice te)) (hs : P.underlying te = some (.struct #[f0, f1, f2]))
    (h0 : P.underlying f0.type = some (.int .i64)) (h1 : P.underlying f1.type = some (.int .i64)) (h2 : P.underlying f2.type = some (.int .u64)) (ho : f0.offset = 0 ∧ f1.offset = 1 ∧ f2.offset = 2)
    (hcs : P.cellsOf f0.type = 1 ∧ P.cellsOf f1.type = 1 ∧ P.cellsOf f2.type = 1) (hc : P.cellsOf te = 3)
    (hv : Value.okWide P w r b0 t v) (h : DataW.Trod enc P w base (fun _ => true) held t v d p) :
    ∃ (A : Option Addr) (n c : Nat) (E : List Edg), v = .slice A n c ∧ n ≤ c ∧ Rd w A 3 n (esCells E) ∧ ∀ k, k < n → edgOk (ge E k) := by
  obtain ⟨A, n, c, rfl⟩ := okWide_slice ht hv
  obtain ⟨fuel, hf⟩ := h
  obtain ⟨A', n', c', E, hcs', hl, hr, hE⟩ := open_edges ht hs h0 h1 h2 ho hcs hc hf
  simp [Value.cells] at hcs'
  obtain ⟨rfl, rfl, rfl⟩ := hcs'
  exact ⟨A, n, c, E, rfl, hl, hr, hE⟩
end
end Go.Proofs.YtkfobolbilhjbaaGreat

namespace Go.Proofs.YtkfobolbilhjbaaGreat.lawFlowRounds
open Go Go.ChangeShapes Go.WideShapes Go.ChangeAt Go.RowKit Go.Proofs.YtkfobolbilhjbaaGreat

theorem own : ownKnob Tryz.prog.godebug = none := by kernel_rfl
theorem laidOut : laidOutB Tryz.prog = true := by kernel_rfl

set_option maxRecDepth 100000 in
theorem lifted (os : Os) (started : os.Started) (H : Type) (enc : TypeId × Value → H) :
    ReturnsInHanded {} Tryz.checked os 3 .any (Rows.flowRoundsSpec.pre6 enc Tryz.prog Tryz.f3 Rows.flowRoundsRow.domain false) (Rows.flowRoundsSpec.post enc Tryz.prog Tryz.f3 false true false false) := by
  refine returnsInHanded_of_change (C := Tryz.checked) own started (by kernel_rfl) Tryz.func3
    (ChangeSpec.witness6 (enc := enc) (C := Tryz.checked) false ⟨#[], #[.agg #[.int .i64 0, .slice none 0 0], .slice none 0 0, .agg #[.int .u64 0, .int .u64 0], .int .i64 0, .slice none 0 0], []⟩ 8 (by kernel_rfl) (by kernel_rfl) (by kernel_rfl) (by kernel_rfl)) ?_
  intro W base args ds gs before hval0 hW hcnd _
  have hval : ∀ (j : Nat) t v, Tryz.f3.params[j]? = some t → args[j]? = some v → Value.okWide Tryz.prog W .any base t v := hval0
  have hW' := hW
  obtain ⟨p, q, hA0, hV, rfl, hfz, hnd⟩ := hW
  have hA : DataW.TrodAll enc Tryz.prog W 0 (fun _ => true) true Tryz.f3.params.toList args.toList ds p := hA0
  rw [Tryz.params3] at hA hval
  obtain ⟨v0, vs0, d0, ds0, p0, q0, hargs, rfl, rfl, h0, r0⟩ := trodAll_cons hA
  obtain ⟨v1, vs1, d1, ds1, p1, q1, rfl, rfl, rfl, h1, r1⟩ := trodAll_cons r0
  obtain ⟨v2, vs2, d2, ds2, p2, q2, rfl, rfl, rfl, h2, r2⟩ := trodAll_cons r1
  obtain ⟨v3, vs3, d3, ds3, p3, q3, rfl, rfl, rfl, h3, r3⟩ := trodAll_cons r2
  obtain ⟨v4, vs4, d4, ds4, p4, q4, rfl, rfl, rfl, h4, r4⟩ := trodAll_cons r3
  obtain ⟨rfl, rfl, rfl⟩ := trodAll_nil r4
  obtain rfl : args = #[v0, v1, v2, v3, v4] := by cases args; simp_all
  obtain ⟨rfl, rfl⟩ := trodVars_none hV
  have k0 := h0
  have lt0 : ∀ x ∈ p0, x.block < W.heap.size := by obtain ⟨m, hm⟩ := k0; exact DataW.trod_lt m _ _ _ hm
  obtain ⟨a0, A0, n0, c0, z0, rfl, x0, l0, w0, u0⟩ := open_graph Tryz.underlying24 Tryz.underlying3 Tryz.underlying22 Tryz.underlying53 Tryz.underlying3 Tryz.underlying3 Tryz.underlying26 ⟨rfl, rfl, rfl⟩ ⟨by kernel_rfl, by kernel_rfl, by kernel_rfl⟩ (by kernel_rfl) (by kernel_rfl) (by kernel_rfl) (hval 0 24 v0 rfl rfl) h0
  have k1 := h1
  have lt1 : ∀ x ∈ p1, x.block < W.heap.size := by obtain ⟨m, hm⟩ := k1; exact DataW.trod_lt m _ _ _ hm
  obtain ⟨A1, n1, c1, z1, rfl, l1, w1, u1⟩ := open_dems Tryz.underlying25 Tryz.underlying58 Tryz.underlying3 Tryz.underlying3 Tryz.underlying26 ⟨rfl, rfl, rfl⟩ ⟨by kernel_rfl, by kernel_rfl, by kernel_rfl⟩ (by kernel_rfl) (hval 1 25 v1 rfl rfl) h1
  have k2 := h2
  have lt2 : ∀ x ∈ p2, x.block < W.heap.size := by obtain ⟨m, hm⟩ := k2; exact DataW.trod_lt m _ _ _ hm
  obtain ⟨a2, b2, rfl, w2, u2⟩ := open_uu Tryz.underlying28 Tryz.underlying26 Tryz.underlying26 (by kernel_rfl) (by kernel_rfl) (hval 2 28 v2 rfl rfl) h2
  have k3 := h3
  have lt3 : ∀ x ∈ p3, x.block < W.heap.size := by obtain ⟨m, hm⟩ := k3; exact DataW.trod_lt m _ _ _ hm
  obtain ⟨a3, rfl, w3⟩ := open_i64 Tryz.underlying3 (hval 3 3 v3 rfl rfl) h3
  have k4 := h4
  have lt4 : ∀ x ∈ p4, x.block < W.heap.size := by obtain ⟨m, hm⟩ := k4; exact DataW.trod_lt m _ _ _ hm
  obtain ⟨A4, n4, c4, z4, rfl, l4, w4, u4⟩ := open_numsC Tryz.underlying29 Tryz.underlying26 (by kernel_rfl) (hval 4 29 v4 rfl rfl) h4
  clear hA0 hval0
  refine (flowRoundsW a0 A0 n0 c0 z0 A1 n1 c1 z1 a2 b2 a3 A4 n4 c4 z4 W x0 l0 w0 u0 l1 w1 u1 w2 u2 w3 l4 w4 u4).mono fun e W' ⟨he, bel⟩ => ?_
  subst he
  exact ⟨_, rfl, _, _, _, [], _, [], hW', trodAll_mk1 (shut_bool Tryz.underlying4 _), (trodAll_cons_mk (Below.trod laidOut (by kernel_rfl) (of_decide_eq_true (by kernel_rfl)) k0 bel lt0) (trodAll_cons_mk (Below.trod laidOut (by kernel_rfl) (of_decide_eq_true (by kernel_rfl)) k1 bel lt1) (trodAll_cons_mk (Below.trod laidOut (by kernel_rfl) (of_decide_eq_true (by kernel_rfl)) k2 bel lt2) (trodAll_cons_mk (Below.trod laidOut (by kernel_rfl) (of_decide_eq_true (by kernel_rfl)) k3 bel lt3) (trodAll_cons_mk (Below.trod laidOut (by kernel_rfl) (of_decide_eq_true (by kernel_rfl)) k4 bel lt4) trodAll_mk0))))), rfl, Below.frame bel _, fun h => by cases h⟩

theorem over : Rows.flowRoundsRow.holds Tryz.pinned (OpenSpec.ofChange Rows.flowRoundsSpec) :=
  OpenClaim.holds_of_wide 3 Tryz.f3 rfl rfl rfl rfl rfl rfl rfl ⟨rfl, rfl, rfl, rfl, rfl⟩ rfl rfl rfl rfl rfl (by kernel_rfl) Tryz.func3 (by kernel_rfl)
    (of_decide_eq_true (by kernel_rfl)) (by unfold Func.isWrapper; first | (rw [if_pos (by decide +kernel)]; kernel_rfl) | (rw [if_neg (by decide +kernel)]; exact ⟨rfl, rfl⟩))
    (fun os started H enc _ => lifted os started H enc)

end Go.Proofs.YtkfobolbilhjbaaGreat.lawFlowRounds
namespace Go.Proofs.YtkfobolbilhjbaaGreat
theorem flowRounds_proved : Rows.FlowRoundsSaid := lawFlowRounds.over
#print axioms flowRounds_proved
end Go.Proofs.YtkfobolbilhjbaaGreat

