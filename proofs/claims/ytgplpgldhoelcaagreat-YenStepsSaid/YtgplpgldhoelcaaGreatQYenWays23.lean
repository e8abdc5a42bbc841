/- Contract: highroadref30.grow: all ways that go on. -/
import Derived.Test.YtgplpgldhoelcaaGreatQYenWays22
namespace Go.Proofs.YtgplpgldhoelcaaGreat
open Go Go.RowKit
attribute [local go_sem] Oper.semAt_some
def GiveGr (wB w : World) (E : List Edg) (Ao : Option Addr) (U : List (List Nat)) (e : Ending) (w' : World) : Prop :=
  ∃ A' c' rs', e = .returned (.slice A' rs'.length c') ∧ RtsAt w' wB.heap.size A' c' rs' (rtW E U) ∧ Touch (fun k => ∃ p, Ao = some p ∧ p.block = k) w w' ∧ (∀ p, A' = some p → (∃ q, Ao = some q ∧ q.block = p.block) ∨ New w w' p.block)
theorem nvOneY (l : List Nat) : ∀ u ∈ nv l, u.oneCell' = true := fun u hu => by
  rw [nv_gi] at hu
  obtain ⟨x, _, rfl⟩ := List.mem_map.1 hu
  rfl
theorem RtsAt.one {wB w w1 w2 : World} {E : List Edg} {U : List (List Nat)} {A A' Ar : Option Addr} {c c' cr : Nat} {rs : List Rt} {r : List Nat} (ho : RtsAt w wB.heap.size A c rs (rtW E U)) (hg : Grows w w1) (hr : Own w1 0 3 1 Ar r.length cr (nv r))
    (hO : Own w2 wB.heap.size 53 2 A' (rs.length + 1) c' (rs.flatMap rtC ++ [.slice Ar r.length cr, .int .u64 (wE E r : Int)])) (hT : Touch (fun k => ∃ p, A = some p ∧ p.block = k) w1 w2) :
    RtsAt w2 wB.heap.size A' c' (rs ++ [(Ar, cr, r, wE E r)]) (rtW E (U ++ [r])) := by
  have ho1 := ho.grows hg
  refine ⟨?_, fun x hx => ?_, ?_⟩
  · rw [List.length_append, List.length_singleton, List.flatMap_append]
    exact hO
  · rcases List.mem_append.1 hx with hx | hx
    · exact (ho1.rows x hx).touch hT (fun p hp ⟨q, hq, e⟩ => (ho1.rows x hx).not_own ho1.own (by decide) p q hp hq e.symm)
    · rw [List.mem_singleton.1 hx]
      exact hr.touch hT (fun p hp ⟨q, hq, e⟩ => hr.not_own ho1.own (by decide) p q hp hq e.symm)
  · rw [List.map_append, ho.eqs]
    simp [rtW]
structure GrL (wB w : World) (N : Nat) (E : List Edg) (t f v : Nat) (S pre : List Nat) (U : List (List Nat)) (Ao : Option Addr) (wr : World) (b4 : Nat) (A : Option Addr) (nE c g lS cn : Nat) (Ae : Option Addr) (lp ce k : Nat) (A8 : Option Addr) (c8 : Nat) (rs8 : List Rt) : Prop where
  grown : Grows wB wr
  box : Arr wr b4 35 [.int .i64 (N : Int), .slice A nE c]
  nodes : Own wr 0 3 1 (some ⟨g, 0, none⟩) (lS + 1) cn (nv (S ++ [v]))
  edges : Own wr 0 3 1 Ae lp ce (nv pre)
  out : RtsAt wr wB.heap.size A8 c8 rs8 (rtW E (U ++ (extK E t f v (S ++ [v]) k).map (pre ++ ·)))
  touch : Touch (fun k => ∃ p, Ao = some p ∧ p.block = k) w wr
  from_ : ∀ p, A8 = some p → (∃ q, Ao = some q ∧ q.block = p.block) ∨ New w wr p.block
theorem GrL.skip {wB w wr wr' : World} {N t f v b4 nE c g lS cn lp ce k c8 : Nat} {E : List Edg} {S pre : List Nat} {U : List (List Nat)} {Ao A Ae A8 : Option Addr} {rs8 : List Rt} (h : GrL wB w N E t f v S pre U Ao wr b4 A nE c g lS cn Ae lp ce k A8 c8 rs8) (hg : Grows wr wr') (hno : ¬ (fN E k = v ∧ tN E k ∉ S ++ [v])) :
    GrL wB w N E t f v S pre U Ao wr' b4 A nE c g lS cn Ae lp ce (k + 1) A8 c8 rs8 := by
  have hs := hg.size
  refine ⟨h.grown.trans hg, h.box.grow hg, h.nodes.grows hg, h.edges.grows hg, ?_, h.touch.grows hg, fun p hp => (h.from_ p hp).imp id (fun e => ⟨e.1, by have := e.2; omega⟩)⟩
  rw [extK_succ, if_neg hno, List.append_nil]
  exact h.out.grows hg
theorem GrL.step {wB w wr w1 w2 : World} {N t f v b4 nE c g lS cn lp ce k c8 c' : Nat} {E : List Edg} {S pre : List Nat} {U : List (List Nat)} {Ao A Ae A8 A' : Option Addr} {rs8 rs' : List Rt} (h : GrL wB w N E t f v S pre U Ao wr b4 A nE c g lS cn Ae lp ce k A8 c8 rs8) (hg : Grows wr w1) (hyes : fN E k = v ∧ tN E k ∉ S ++ [v])
    (ho : RtsAt w2 wB.heap.size A' c' rs' (rtW E (U ++ (extK E t f v (S ++ [v]) k).map (pre ++ ·) ++ (ext E t f (tN E k) (S ++ [v] ++ [tN E k])).map (pre ++ [k] ++ ·)))) (ht : Touch (fun j => ∃ p, A8 = some p ∧ p.block = j) w1 w2) (hn : ∀ p, A' = some p → (∃ q, A8 = some q ∧ q.block = p.block) ∨ New w1 w2 p.block) :
    GrL wB w N E t f v S pre U Ao w2 b4 A nE c g lS cn Ae lp ce (k + 1) A' c' rs' := by
  have o8 := h.out.grows hg
  have hs := hg.size
  have hws : w.heap.size ≤ wr.heap.size := h.touch.size
  refine ⟨ht.later (h.grown.trans hg) (fun j ⟨p, hp, e⟩ => by have := (o8.own.ty p hp).1; omega), (h.box.grow hg).touch ht (fun ⟨p, hp, e⟩ => o8.own.not_arr (h.box.grow hg) (by decide) p hp e), (h.nodes.grows hg).touch ht (fun p hp ⟨q, hq, e⟩ => (h.nodes.grows hg).not_own o8.own (by decide) p q hp hq e.symm), (h.edges.grows hg).touch ht (fun p hp ⟨q, hq, e⟩ => (h.edges.grows hg).not_own o8.own (by decide) p q hp hq e.symm), ?_, ?_, fun p hp => ?_⟩
  · rw [extK_yes hyes, ← List.append_assoc]
    exact ho
  · refine (h.touch.grows hg).trans2 ht (fun j ⟨p, hp, e⟩ => ?_)
    rcases h.from_ p hp with ⟨q, hq, e2⟩ | h2
    · exact .inl ⟨q, hq, e2.trans e⟩
    · exact .inr (by have := h2.1; omega)
  · rcases hn p hp with ⟨q, hq, e⟩ | h2
    · rcases h.from_ q hq with ⟨q2, hq2, e2⟩ | h3
      · exact .inl ⟨q2, hq2, e2.trans e⟩
      · exact .inr (by rw [← e]; exact ⟨h3.1, Nat.lt_of_lt_of_le h3.2 (Nat.le_trans hs ht.size)⟩)
    · exact .inr ⟨by have := h2.1; omega, h2.2⟩
set_option maxRecDepth 20000 in
set_option maxHeartbeats 8000000 in
theorem r30grow (N : Nat) (A : Option Addr) (c : Nat) (E : List Edg) (t : Nat) (wB : World) (h : Rd wB A 3 E.length (esCells E)) (hr : rightF (N : Int) E = 0) (hN : N ≤ 60) (most : Nat) (hmost : 100000 < most) :
    ∀ (f v : Nat) (S pre : List Nat) (U : List (List Nat)) (An Ae Ao : Option Addr) (cn ce co : Nat) (rsO : List Rt) (w : World), N + 1 ≤ f + (S.length + 1) → (S ++ [v]).Nodup → (∀ u ∈ S ++ [v], u < N) → pre.length + f ≤ N → (∀ i ∈ pre, i < E.length) → U.length + (ext E t f v (S ++ [v])).length ≤ 100000 → (pre = [] → Ae = none) → Grows wB w →
      Own w 0 3 1 An (S.length + 1) cn (nv (S ++ [v])) → Own w 0 3 1 Ae pre.length ce (nv pre) → RtsAt w wB.heap.size Ao co rsO (rtW E U) →
      Calls Tryz.prog 82 #[.agg #[.int .i64 (N : Int), .slice A E.length c], .int .i64 (t : Int), .slice An (S.length + 1) cn, .slice Ae pre.length ce, .int .u64 (wE E pre : Int), .slice Ao rsO.length co, .int .i64 (most : Int)] w (GiveGr wB w E Ao (U ++ (ext E t f v (S ++ [v])).map (pre ++ ·))) := by
  intro f
  induction f with
  | zero =>
    intro v S pre U An Ae Ao cn ce co rsO w hf hnd hlt
    exfalso
    have h1 := List.Nodup.length_le_of_subset hnd (l₂ := List.range N) (fun u hu => List.mem_range.2 (hlt u hu))
    simp at h1
    omega
  | succ f ih =>
    intro v S pre U An Ae Ao cn ce co rsO w hf hnd hlt hpf hpe hUl hen hgB hn he ho
    have hrs : rsO.length ≤ 100000 := by have := ho.len; simp [rtW] at this; omega
    obtain ⟨gn0, cn0, hAn, hlast⟩ : ∃ g, ∃ _ : Unit, An = some ⟨g, 0, none⟩ ∧ Holds w ⟨g, S.length, none⟩ (.int .i64 (v : Int)) := by
      obtain ⟨g, cur, rfl, _⟩ := hn.at_ (by omega)
      obtain ⟨b, off, e1, hc⟩ := hn.rd.at_ (by omega)
      injection e1 with e1
      injection e1 with e1 e2 _
      subst e1 e2
      refine ⟨g, (), rfl, ⟨?_⟩⟩
      have := hc S.length (.int .i64 (v : Int)) (by simp [nv])
      simpa using this
    subst hAn
    have HN := hide hn
    have HE := hide he
    have HO := hide ho
    have HB := hide hgB
    have HPE := hide hpe
    have hSl : S.length + 1 ≤ 60 := by
      have h1 := List.Nodup.length_le_of_subset hnd (l₂ := List.range N) (fun u hu => List.mem_range.2 (hlt u hu))
      simp at h1
      omega
    have hwe : wE E pre ≤ 257698037760 := by have h1 := wE_le hr pre hpe; have : pre.length * 4294967296 ≤ 60 * 4294967296 := Nat.mul_le_mul_right _ (by omega); omega
    clear hn he ho
    unfold GiveGr
    by_cases hvt : v = t
    · subst hvt
      rw [ext_end]
      generalize hwp : wE E pre = wp at *
      have HWP := hide hwp
      clear hwp
      generalize hlp : pre.length = lp at *
      have HLP := hide hlp
      clear hlp
      generalize S.length = lS at *
      clear ih h hf hnd hlt hUl hpe hen
      have HNIL := hide (show Ae = none → lp = 0 ∧ ce = 0 from fun e => by
        rcases HE.out.2 with ⟨e8, h0⟩ | ⟨g8, _, _, e8, _⟩
        · injection e8 with e1 e2 e3
          exact ⟨by omega, e3⟩
        · injection e8 with e1
          rw [e] at e1
          cases e1)
      have HFIN := hide (fun (A4 A5 : Option Addr) (c4 c5 : Nat) (w1 w5 : World) (hg : Grows w w1) (h4 : Own w1 0 3 1 A4 lp c4 (nv ([] ++ pre))) (h5 : Own w5 wB.heap.size 53 2 A5 (rsO.length + 1) c5 (rsO.flatMap rtC ++ [.slice A4 lp c4, .int .u64 (wp : Int)])) (ht : Touch (fun k => ∃ p, Ao = some p ∧ p.block = k) w1 w5) (hn : ∀ p, A5 = some p → (∃ q, Ao = some q ∧ q.block = p.block) ∨ New w1 w5 p.block) =>
        show RtsAt w5 wB.heap.size A5 c5 (rsO ++ [(A4, c4, pre, wp)]) (rtW E (U ++ [[]].map (pre ++ ·))) ∧ Touch (fun k => ∃ p, Ao = some p ∧ p.block = k) w w5 ∧ ∀ p, A5 = some p → (∃ q, Ao = some q ∧ q.block = p.block) ∨ New w w5 p.block from by
          have h6 := HO.out.one (r := pre) (Ar := A4) (cr := c4) hg (by rw [HLP.out]; simpa using h4) (by rw [HLP.out, HWP.out]; exact h5) ht
          rw [HWP.out] at h6
          have hs := hg.size
          refine ⟨by simpa using h6, (hg.touch _).trans ht, fun p hp => (hn p hp).imp id (fun h => ⟨by have := h.1; omega, h.2⟩)⟩)
      have HR := hide hr
      clear hr
      go_enter Tryz.func82, Tryz.ntmps82
      go_upto_region 1 with fail
      obtain ⟨W0, hW0⟩ : ∃ W0, W0 = w.alloc (.cells #[.int .i64 (N : Int), .slice A E.length c] 35) := ⟨_, rfl⟩
      have hg0 : Grows w W0 := by rw [hW0]; exact (Grows.refl _).new _
      have a1 : Arr W0 w.heap.size 35 [.int .i64 (N : Int), .slice A E.length c] := by rw [hW0]; exact Arr.make _ _ _
      rw [← hW0]
      clear hW0
      obtain ⟨x0, rfl⟩ := hg0.later
      obtain ⟨b4, hb4⟩ : ∃ b4, b4 = w.heap.size := ⟨_, rfl⟩
      rw [← hb4] at a1 ⊢
      clear hb4
      go_wp2_with (first
        | (at_builtin; refine wp_appRows elemInt rfl _ _ rfl x0.now GG 0 0 _ [] rfl (Own.empty _ _ _ _ (Nat.le_refl _)) Ae lp ce (nv pre) rfl (HE.out.rd.grows GG) HNIL.out (nvOneY _) (by omega) ?_; intro A4 c4 y4 hown4; rw [Nat.zero_add] at hown4; have HO4 := hide hown4; clear hown4)
        | (at_builtin; (refine wp_appT elemRoute rfl _ _ rfl wB.heap.size (show Grows wB _ from HB.out.trans GG).size rsO.length co Ao _ rfl (HO.out.grows (show Grows w _ from GG)).own _ _ [.slice A4 lp c4, .int .u64 (wp : Int)] rfl rfl (fun j u hu => by
              match j, hu with
              | 0, hu => simp at hu; subst hu; simp [go_sem]
              | 1, hu => simp at hu; subst hu; simp [go_sem]) (fun u hu => by simp at hu; rcases hu with rfl | rfl <;> rfl) (by omega) ?_; intro A5 c5 w5 hown5 ht5 hn5; have HX := hide (HFIN.out A4 A5 c4 c5 _ w5 (show Grows w _ from GG) ((HO4.out.base (B' := 0) (Nat.zero_le _)).grows GG) hown5 ht5 hn5); clear hown5 ht5 hn5)))
      go_ret
      exact ⟨A5, c5, rsO ++ [(A4, c4, pre, wp)], by rw [List.length_append, List.length_singleton]; rfl, HX.out.1, HX.out.2.1, HX.out.2.2⟩
    · rw [ext_go hvt] at hUl ⊢
      have hE6 : E.length ≤ 1000000 := by have := (right_in hr).2.2.1; omega
      have hvI : ((v : Int) == (t : Int)) = false := beq_eq_false_iff_ne.2 (by omega)
      have HSL := hide (show (S ++ [v]).length = S.length + 1 by simp)
      have HIH := hide ih
      have HHR := hide hr
      have HND := hide hnd
      have HLT := hide hlt
      have HUL := hide hUl
      have HF := hide hf
      have HEN := hide (show pre.length = 0 → Ae = none from fun h0 => hen (List.eq_nil_of_length_eq_zero h0))
      have HNIL := hide (show Ae = none → pre.length = 0 ∧ ce = 0 from fun e => by
        rcases HE.out.2 with ⟨e8, h0⟩ | ⟨g8, _, _, e8, _⟩
        · injection e8 with e1 e2 e3
          exact ⟨by omega, e3⟩
        · injection e8 with e1
          rw [e] at e1
          cases e1)
      clear ih hr hnd hlt hUl hf hpe hen
      generalize hwp : wE E pre = wp at *
      have HWP := hide hwp
      clear hwp
      generalize hlp : pre.length = lp at *
      have HLP := hide hlp
      clear hlp
      generalize hls : S.length = lS at *
      have HLS := hide hls
      clear hls
      generalize hnE : E.length = nE at *
      have HNE := hide hnE
      clear hnE
      go_enter Tryz.func82, Tryz.ntmps82
      go_upto_region 1 with fail
      obtain ⟨W0, hW0⟩ : ∃ W0, W0 = w.alloc (.cells #[.int .i64 (N : Int), .slice A nE c] 35) := ⟨_, rfl⟩
      have hg0 : Grows w W0 := by rw [hW0]; exact (Grows.refl _).new _
      have a1 : Arr W0 w.heap.size 35 [.int .i64 (N : Int), .slice A nE c] := by rw [hW0]; exact Arr.make _ _ _
      rw [← hW0]
      clear hW0
      obtain ⟨b4, hb4⟩ : ∃ b4, b4 = w.heap.size := ⟨_, rfl⟩
      rw [← hb4] at a1 ⊢
      have HB4 := hide hb4
      clear hb4
      have HA1 := hide a1
      obtain ⟨x0, rfl⟩ := hg0.later
      go_wp2_with fail
      have HS0 := hide (show GrL wB w N E t f v S pre U Ao x0.now b4 A nE c gn0 lS cn Ae lp ce 0 Ao co rsO from ⟨hgB.trans hg0, a1, HN.out.grows hg0, HE.out.grows hg0, by simpa [extK] using HO.out.grows hg0, hg0.touch _, fun p hp => .inl ⟨p, hp, rfl⟩⟩)
      rw [show decide (most ≤ rsO.length) = false from decide_eq_false (by omega)]
      obtain ⟨y0, hy0⟩ : ∃ y0 : Later wB, y0.now = x0.now := by
        obtain ⟨z, hz⟩ := HS0.out.grown.later
        exact ⟨z, hz.symm⟩
      have HX0 := hide hy0
      go_loopw [5, 16] (fun out tk wr => ∃ (k : Nat) (A8 : Option Addr) (c8 : Nat) (rs8 : List Rt), k ≤ nE ∧ tk = .int .i64 (k : Int) ∧ out = .slice A8 rs8.length c8 ∧ ∃ y : Later wB, wr = y.now ∧ Hid (GrL wB w N E t f v S pre U Ao y.now b4 A nE c gn0 lS cn Ae lp ce k A8 c8 rs8)) (fun _ tk _ => nE - (Go.RowKit.intOf tk).toNat)
      case atStart => exact ⟨0, Ao, co, rsO, by omega, by go_num, rfl, y0, hy0.symm, by rw [hy0]; exact HS0⟩
      case round =>
        obtain ⟨k, A8, c8, rs8, hk, rfl, rfl, y, rfl, HG⟩ := hrel
        have b1 := HG.out.box
        by_cases hlt : k < nE
        · obtain ⟨bE, oE, hAE, hcE⟩ := h.edgesH (by omega)
          obtain ⟨e1, e2, e3⟩ := hcE k hlt
          clear hcE
          have hed := (right_in HHR.out).2.2.2.1
          rw [Int.toNat_natCast] at hed
          have hfk := hed.f k (by have := HNE.out; omega)
          have htk := hed.t k (by have := HNE.out; omega)
          have hwk := (right_in HHR.out).2.2.2.2 k (by have := HNE.out; omega)
          rw [hfk.2] at e1
          rw [htk.2] at e2
          subst hAE
          have hmem : ((tN E k : Int) ∈ ciL (S ++ [v])) ↔ tN E k ∈ S ++ [v] := by
            unfold ciL
            constructor
            · intro hm
              obtain ⟨a, ha, e⟩ := List.mem_map.1 hm
              have e2 : a = tN E k := by omega
              rw [← e2]
              exact ha
            · intro hm
              exact List.mem_map.2 ⟨_, hm, rfl⟩
          have CH := hide (fun (X : World) (g : Grows y.now X) => r1Has (some ⟨gn0, 0, none⟩) (lS + 1) cn (ciL (S ++ [v])) (tN E k : Int) X (by rw [← nv_ci]; exact HG.out.nodes.rd.grows g) (by omega))
          by_cases hfv : fN E k = v
          · by_cases hin : tN E k ∈ S ++ [v]
            · have HNO := hide (fun (X : World) (g : Grows y.now X) => HG.out.skip g (fun hc => hc.2 hin))
              rw [decide_eq_true (hmem.2 hin)] at CH
              generalize tN E k = tk at *
              generalize (ge E k).w = wk at *
              rw [hfv] at e1
              clear hmem hin hed hfk htk hwk
              go_wp2_with (go_at_call 57; refine (CH.out _ GG).mono ?_; rintro e w' ⟨rfl, rfl⟩)
              go_roundw
              case measure => simp [Go.RowKit.intOf]; omega
              case rel => exact ⟨k + 1, A8, c8, rs8, by omega, by go_num, rfl, ⟨(y.now.alloc (.cells #[.int .i64 (v : Int), .int .i64 (tk : Int), .int .u64 wk] 84)), y.grows.trans ((Grows.refl _).new _)⟩, rfl, hide (HNO.out (y.now.alloc (.cells #[.int .i64 (v : Int), .int .i64 (tk : Int), .int .u64 wk] 84)) ((Grows.refl _).new _))⟩
            · rw [decide_eq_false (fun hc => hin (hmem.1 hc))] at CH
              have HIN := hide hin
              have HTK := hide htk.1
              generalize hwk2 : (ge E k).w = wk at *
              have HWK := hide hwk2
              clear hwk2
              generalize hkt : tN E k = tk at *
              have HKT := hide hkt
              clear hkt
              rw [hfv] at e1
              have HFV := hide hfv
              clear hmem hin hed hfk htk hfv
              go_upto_region 11 with (go_at_call 57; refine (CH.out _ GG).mono ?_; rintro e w' ⟨rfl, rfl⟩)
              obtain ⟨W, hW⟩ : ∃ W, W = y.now.alloc (.cells #[.int .i64 (v : Int), .int .i64 (tk : Int), .int .u64 wk] 84) := ⟨_, rfl⟩
              have hgW : Grows y.now W := by rw [hW]; exact (Grows.refl _).new _
              have aE : Arr W y.now.heap.size 84 [.int .i64 (v : Int), .int .i64 (tk : Int), .int .u64 wk] := by rw [hW]; exact Arr.make _ _ _
              have aG := b1.grow hgW
              rw [← hW]
              clear hW
              obtain ⟨bx, hbx⟩ : ∃ b, b = y.now.heap.size := ⟨_, rfl⟩
              rw [← hbx] at aE ⊢
              clear hbx
              have HCALL := hide (fun (A1 A3 : Option Addr) (d1 d3 : Nat) (w1 : World) (hg : Grows W w1) (o1 : Own w1 W.heap.size 3 1 A1 (lS + 1 + 1) d1 (nv (S ++ [v]) ++ [.int .i64 (tk : Int)])) (o3 : Own w1 W.heap.size 3 1 A3 (lp + 1) d3 (nv pre ++ [.int .i64 (k : Int)])) =>
                show Calls Tryz.prog 82 #[.agg #[.int .i64 (N : Int), .slice (some ⟨bE, oE, none⟩) nE c], .int .i64 (t : Int), .slice A1 (lS + 1 + 1) d1, .slice A3 (lp + 1) d3, .int .u64 ((wp : Int) + wk), .slice A8 rs8.length c8, .int .i64 (most : Int)] w1 (fun e w2 => ∃ A' c' rs', e = .returned (.slice A' rs'.length c') ∧ GrL wB w N E t f v S pre U Ao w2 b4 (some ⟨bE, oE, none⟩) nE c gn0 lS cn Ae lp ce (k + 1) A' c' rs') from by
                  have hl1 : (S ++ [v]).length = lS + 1 := HSL.out
                  have hl3 : (pre ++ [k]).length = lp + 1 := by rw [List.length_append, List.length_singleton, HLP.out]
                  have hw3 : ((wE E (pre ++ [k]) : Nat) : Int) = (wp : Int) + wk := by
                    rw [wE_append, HWP.out, show wE E [k] = (ge E k).w.toNat by simp [wE], HWK.out]
                    omega
                  have hq := HIH.out tk (S ++ [v]) (pre ++ [k]) (U ++ (extK E t f v (S ++ [v]) k).map (pre ++ ·)) A1 A3 A8 d1 d3 c8 rs8 w1 (by rw [hl1]; have := HF.out; omega) (List.nodup_append.2 ⟨HND.out, by simp, fun a ha b hb e2 => by rw [List.mem_singleton.1 hb] at e2; rw [e2] at ha; exact HIN.out ha⟩) (fun u hu => by
                      rcases List.mem_append.1 hu with h8 | h8
                      · exact HLT.out u h8
                      · rw [List.mem_singleton.1 h8]; exact HTK.out) (by rw [hl3]; omega) (fun i hi => by
                      rcases List.mem_append.1 hi with h8 | h8
                      · exact HPE.out i h8
                      · rw [List.mem_singleton.1 h8]; exact hlt) (by
                      have h8 := extK_mono (E := E) (t := t) (f := f) (v := v) (S := S ++ [v]) (show k + 1 ≤ nE by omega)
                      rw [extK_succ, HKT.out, if_pos ⟨HFV.out, HIN.out⟩] at h8
                      simp only [List.length_append, List.length_map] at h8 ⊢
                      have := HUL.out
                      omega) (fun h8 => absurd h8 (by simp)) (HG.out.grown.trans (hgW.trans hg)) (by
                      rw [hl1]
                      have h8 := o1.base (B' := 0) (Nat.zero_le _)
                      rw [show nv (S ++ [v]) ++ [.int .i64 (tk : Int)] = nv (S ++ [v] ++ [tk]) by simp [nv]] at h8
                      exact h8) (by
                      rw [hl3]
                      have h8 := o3.base (B' := 0) (Nat.zero_le _)
                      rw [show nv pre ++ [.int .i64 (k : Int)] = nv (pre ++ [k]) by simp [nv]] at h8
                      exact h8) (HG.out.out.grows (hgW.trans hg))
                  rw [hl1, hl3, hw3] at hq
                  refine hq.mono ?_
                  rintro e w2 ⟨A', c', rs', he, h1, h2, h3⟩
                  refine ⟨A', c', rs', he, HG.out.step (hgW.trans hg) (by rw [HKT.out]; exact ⟨HFV.out, HIN.out⟩) (by rw [HKT.out]; exact h1) h2 h3⟩)
              go_wp2_with fail
              obtain ⟨VV, hVV⟩ : ∃ V : GrC → Nat → Value, V = fun q j => ([.agg #[.int .i64 (N : Int), .slice (some ⟨bE, oE, none⟩) nE c], .int .i64 (t : Int), .slice (some ⟨q.g0, 0, none⟩) 0 0, .slice (some ⟨gn0, 0, none⟩) (lS + 1) cn, .slice q.a0 (lS + 1) q.c0, .pointer (some ⟨bx, 1, none⟩), .int .i64 (tk : Int), .slice (some ⟨q.g1, 0, none⟩) 1 1, .slice q.a1 (lS + 1 + 1) q.c1, .slice (some ⟨q.g2, 0, none⟩) 0 0, .slice Ae lp ce, .slice q.a2 lp q.c2, .int .i64 (k : Int), .slice (some ⟨q.g3, 0, none⟩) 1 1, .slice q.a3 (lp + 1) q.c3, .int .u64 (wp : Int), .pointer (some ⟨bx, 2, none⟩), .int .u64 wk, .int .u64 ((wp : Int) + wk), .slice A8 rs8.length c8, .int .i64 (most : Int), .slice q.aR q.nR q.cR, .slice q.aR q.nR q.cR] : List Value).getD j undef := ⟨_, rfl⟩
              refine wp_region_late (by kernel_rfl) (by kernel_rfl) (by kernel_rfl) (by kernel_rfl) (by kernel_rfl) VV
                (fun q D w1 => (D 21 = false → GrJ W w1 D q (lS + 1) lp (nv (S ++ [v])) (nv pre) (.int .i64 (tk : Int)) (.int .i64 (k : Int))) ∧ (D 21 = true → ∃ rs' : List Rt, rs'.length = q.nR ∧ GrL wB w N E t f v S pre U Ao w1 b4 (some ⟨bE, oE, none⟩) nE c gn0 lS cn Ae lp ce (k + 1) q.aR q.cR rs'))
                ⟨0, 0, 0, 0, none, none, none, none, 0, 0, 0, 0, none, 0, 0⟩ ⟨fun _ => ⟨(Grows.refl _).drew, fun h => absurd h (by simp), fun h => absurd h (by simp), fun h => absurd h (by simp), fun h => absurd h (by simp), fun h => absurd h (by simp), fun h => absurd h (by simp), fun h => absurd h (by simp), fun h => absurd h (by simp), fun h => absurd h (by simp), fun h => absurd h (by simp), fun h => absurd h (by simp)⟩, fun h => absurd h (by simp)⟩ ?hs ?he
              case hs =>
                subst hVV
                intro q a D hV hO i oo' ho hcl hD hpre w1 hM
                obtain ⟨h1, h2⟩ := hM
                match i, ho, hD, hpre with
                    | 0, ho, hD, hpre =>
                      cases (show some _ = some oo' from ho)
                      have e7 := ev_nfK ((hO 7 (notDstL (by kernel_rfl))).trans rfl)
                      have n21 : D 21 = false := by
                        cases hd : D 21 with
                        | false => rfl
                        | true => exact absurd (hcl 21 0 hd (by kernel_rfl)) (by rw [hD]; exact Bool.false_ne_true)
                      have hJ := h1 n21
                      have zG := aG.grow hJ.grows
                      have zE := aE.grow hJ.grows
                      refine runsTo_monoY (Q := fun uu w2 => w2 = w1 ∧ uu = (.agg #[.int .i64 (N : Int), .slice (some ⟨bE, oE, none⟩) nE c] : Value)) ?_ (fun uu w2 hq => ⟨q, ?_, fun _ _ _ => rfl, .inr hq.2⟩)
                      · clear h1 h2 hJ
                        go_simp
                        all_goals exact ⟨rfl, rfl⟩
                      · obtain ⟨rfl, _⟩ := hq
                        exact ⟨fun _ => hJ.congr (fun j hj => if_neg (by omega)), fun hd => absurd (show D 21 = true by simpa using hd) (by rw [n21]; exact Bool.false_ne_true)⟩
                    | 1, ho, hD, hpre =>
                      cases (show some _ = some oo' from ho)
                      have e1 := ev_nfK ((hO 1 (notDstL (by kernel_rfl))).trans rfl)
                      have n21 : D 21 = false := by
                        cases hd : D 21 with
                        | false => rfl
                        | true => exact absurd (hcl 21 1 hd (by kernel_rfl)) (by rw [hD]; exact Bool.false_ne_true)
                      have hJ := h1 n21
                      have zG := aG.grow hJ.grows
                      have zE := aE.grow hJ.grows
                      refine runsTo_monoY (Q := fun uu w2 => w2 = w1 ∧ uu = (.int .i64 (t : Int) : Value)) ?_ (fun uu w2 hq => ⟨q, ?_, fun _ _ _ => rfl, .inr hq.2⟩)
                      · clear h1 h2 hJ
                        go_simp
                        all_goals exact ⟨rfl, rfl⟩
                      · obtain ⟨rfl, _⟩ := hq
                        exact ⟨fun _ => hJ.congr (fun j hj => if_neg (by omega)), fun hd => absurd (show D 21 = true by simpa using hd) (by rw [n21]; exact Bool.false_ne_true)⟩
                    | 2, ho, hD, hpre =>
                      cases (show some _ = some oo' from ho)
                      have n21 : D 21 = false := by
                        cases hd : D 21 with
                        | false => rfl
                        | true => exact absurd (hcl 4 2 (hcl 8 4 (hcl 21 8 hd (by kernel_rfl)) (by kernel_rfl)) (by kernel_rfl)) (by rw [hD]; exact Bool.false_ne_true)
                      have hJ := h1 n21
                      refine runsTo_monoY (Q := fun uu w2 => w2 = w1.alloc (.cells #[] 3) ∧ uu = (.slice (some ⟨w1.heap.size, 0, none⟩) 0 0 : Value)) ?_ (fun uu w2 hq => ?_)
                      · clear h1 h2 hJ
                        go_simp
                        all_goals exact ⟨rfl, rfl⟩
                      · obtain ⟨rfl, hu⟩ := hq
                        refine ⟨{ q with g0 := w1.heap.size }, ⟨fun _ => hJ.k2, fun hd => absurd (show D 21 = true by simpa using hd) (by rw [n21]; exact Bool.false_ne_true)⟩, fun j _ hDj => ?_, .inr hu⟩
                        · match j, hDj with
                          | 0, _ => rfl
                          | 1, _ => rfl
                          | 2, hDj => exact absurd hDj (by rw [hD]; exact Bool.false_ne_true)
                          | 3, _ => rfl
                          | 4, _ => rfl
                          | 5, _ => rfl
                          | 6, _ => rfl
                          | 7, _ => rfl
                          | 8, _ => rfl
                          | 9, _ => rfl
                          | 10, _ => rfl
                          | 11, _ => rfl
                          | 12, _ => rfl
                          | 13, _ => rfl
                          | 14, _ => rfl
                          | 15, _ => rfl
                          | 16, _ => rfl
                          | 17, _ => rfl
                          | 18, _ => rfl
                          | 19, _ => rfl
                          | 20, _ => rfl
                          | 21, _ => rfl
                          | 22, _ => rfl
                          | n + 23, _ => rfl
                    | 3, ho, hD, hpre =>
                      cases (show some _ = some oo' from ho)
                      have e2 := ev_nfK ((hO 2 (notDstL (by kernel_rfl))).trans rfl)
                      have n21 : D 21 = false := by
                        cases hd : D 21 with
                        | false => rfl
                        | true => exact absurd (hcl 4 3 (hcl 8 4 (hcl 21 8 hd (by kernel_rfl)) (by kernel_rfl)) (by kernel_rfl)) (by rw [hD]; exact Bool.false_ne_true)
                      have hJ := h1 n21
                      have zG := aG.grow hJ.grows
                      have zE := aE.grow hJ.grows
                      refine runsTo_monoY (Q := fun uu w2 => w2 = w1 ∧ uu = (.slice (some ⟨gn0, 0, none⟩) (lS + 1) cn : Value)) ?_ (fun uu w2 hq => ⟨q, ?_, fun _ _ _ => rfl, .inr hq.2⟩)
                      · clear h1 h2 hJ
                        go_simp
                        all_goals exact ⟨rfl, rfl⟩
                      · obtain ⟨rfl, _⟩ := hq
                        exact ⟨fun _ => hJ.congr (fun j hj => if_neg (by omega)), fun hd => absurd (show D 21 = true by simpa using hd) (by rw [n21]; exact Bool.false_ne_true)⟩
                    | 4, ho, hD, hpre =>
                      cases (show some _ = some oo' from ho)
                      have e65 := ev_nfK (hV 2 65 rfl (hpre 2 (by kernel_rfl)))
                      have e66 := ev_nfK (hV 3 66 rfl (hpre 3 (by kernel_rfl)))
                      have n21 : D 21 = false := by
                        cases hd : D 21 with
                        | false => rfl
                        | true => exact absurd (hcl 8 4 (hcl 21 8 hd (by kernel_rfl)) (by kernel_rfl)) (by rw [hD]; exact Bool.false_ne_true)
                      have hJ := h1 n21
                      refine runsTo_monoY (runs_appE elemInt (s := .tmp 65) (x := .tmp 66) rfl W.heap.size q.g0 hJ.grows.size ((hV 2 65 rfl (hpre 2 (by kernel_rfl))).trans rfl) (hJ.e0 (hpre 2 (by kernel_rfl)) hD) (some ⟨gn0, 0, none⟩) (lS + 1) cn (nv (S ++ [v])) ((hV 3 66 rfl (hpre 3 (by kernel_rfl))).trans rfl) (HG.out.nodes.rd.grows (hgW.trans hJ.grows)) (fun h => by cases h) (fun h => absurd h (by omega)) (nvOneY _) (by omega)) (fun uu w2 hq => ?_)
                      obtain ⟨A5, c5, hu, ho5, hg5, hA5⟩ := hq
                      refine ⟨{ q with a0 := A5, c0 := c5 }, ⟨fun _ => hJ.k4 hg5 ho5 (by omega) hA5, fun hd => absurd (show D 21 = true by simpa using hd) (by rw [n21]; exact Bool.false_ne_true)⟩, fun j _ hDj => ?_, .inr hu⟩
                      · match j, hDj with
                        | 0, _ => rfl
                        | 1, _ => rfl
                        | 2, _ => rfl
                        | 3, _ => rfl
                        | 4, hDj => exact absurd hDj (by rw [hD]; exact Bool.false_ne_true)
                        | 5, _ => rfl
                        | 6, _ => rfl
                        | 7, _ => rfl
                        | 8, _ => rfl
                        | 9, _ => rfl
                        | 10, _ => rfl
                        | 11, _ => rfl
                        | 12, _ => rfl
                        | 13, _ => rfl
                        | 14, _ => rfl
                        | 15, _ => rfl
                        | 16, _ => rfl
                        | 17, _ => rfl
                        | 18, _ => rfl
                        | 19, _ => rfl
                        | 20, _ => rfl
                        | 21, _ => rfl
                        | 22, _ => rfl
                        | n + 23, _ => rfl
                    | 5, ho, hD, hpre =>
                      cases (show some _ = some oo' from ho)
                      have e17 := ev_nfK ((hO 17 (notDstL (by kernel_rfl))).trans rfl)
                      have n21 : D 21 = false := by
                        cases hd : D 21 with
                        | false => rfl
                        | true => exact absurd (hcl 6 5 (hcl 7 6 (hcl 8 7 (hcl 21 8 hd (by kernel_rfl)) (by kernel_rfl)) (by kernel_rfl)) (by kernel_rfl)) (by rw [hD]; exact Bool.false_ne_true)
                      have hJ := h1 n21
                      have zG := aG.grow hJ.grows
                      have zE := aE.grow hJ.grows
                      refine runsTo_monoY (Q := fun uu w2 => w2 = w1 ∧ uu = (.pointer (some ⟨bx, 1, none⟩) : Value)) ?_ (fun uu w2 hq => ⟨q, ?_, fun _ _ _ => rfl, .inr hq.2⟩)
                      · clear h1 h2 hJ
                        go_simp
                        all_goals exact ⟨rfl, rfl⟩
                      · obtain ⟨rfl, _⟩ := hq
                        exact ⟨fun _ => hJ.congr (fun j hj => if_neg (by omega)), fun hd => absurd (show D 21 = true by simpa using hd) (by rw [n21]; exact Bool.false_ne_true)⟩
                    | 6, ho, hD, hpre =>
                      cases (show some _ = some oo' from ho)
                      have e68 := ev_nfK (hV 5 68 rfl (hpre 5 (by kernel_rfl)))
                      have n21 : D 21 = false := by
                        cases hd : D 21 with
                        | false => rfl
                        | true => exact absurd (hcl 7 6 (hcl 8 7 (hcl 21 8 hd (by kernel_rfl)) (by kernel_rfl)) (by kernel_rfl)) (by rw [hD]; exact Bool.false_ne_true)
                      have hJ := h1 n21
                      have zG := aG.grow hJ.grows
                      have zE := aE.grow hJ.grows
                      refine runsTo_monoY (Q := fun uu w2 => w2 = w1 ∧ uu = (.int .i64 (tk : Int) : Value)) ?_ (fun uu w2 hq => ⟨q, ?_, fun _ _ _ => rfl, .inr hq.2⟩)
                      · clear h1 h2 hJ
                        go_simp
                        all_goals exact ⟨rfl, rfl⟩
                      · obtain ⟨rfl, _⟩ := hq
                        exact ⟨fun _ => hJ.congr (fun j hj => if_neg (by omega)), fun hd => absurd (show D 21 = true by simpa using hd) (by rw [n21]; exact Bool.false_ne_true)⟩
                    | 7, ho, hD, hpre =>
                      cases (show some _ = some oo' from ho)
                      have e69 := ev_nfK (hV 6 69 rfl (hpre 6 (by kernel_rfl)))
                      have n21 : D 21 = false := by
                        cases hd : D 21 with
                        | false => rfl
                        | true => exact absurd (hcl 8 7 (hcl 21 8 hd (by kernel_rfl)) (by kernel_rfl)) (by rw [hD]; exact Bool.false_ne_true)
                      have hJ := h1 n21
                      refine runsTo_monoY (Q := fun uu w2 => w2 = w1.alloc (.cells #[.int .i64 (tk : Int)] 3) ∧ uu = (.slice (some ⟨w1.heap.size, 0, none⟩) 1 1 : Value)) ?_ (fun uu w2 hq => ?_)
                      · clear h1 h2 hJ
                        go_simp
                        all_goals exact ⟨rfl, rfl⟩
                      · obtain ⟨rfl, hu⟩ := hq
                        refine ⟨{ q with g1 := w1.heap.size }, ⟨fun _ => hJ.k7, fun hd => absurd (show D 21 = true by simpa using hd) (by rw [n21]; exact Bool.false_ne_true)⟩, fun j _ hDj => ?_, .inr hu⟩
                        · match j, hDj with
                          | 0, _ => rfl
                          | 1, _ => rfl
                          | 2, _ => rfl
                          | 3, _ => rfl
                          | 4, _ => rfl
                          | 5, _ => rfl
                          | 6, _ => rfl
                          | 7, hDj => exact absurd hDj (by rw [hD]; exact Bool.false_ne_true)
                          | 8, _ => rfl
                          | 9, _ => rfl
                          | 10, _ => rfl
                          | 11, _ => rfl
                          | 12, _ => rfl
                          | 13, _ => rfl
                          | 14, _ => rfl
                          | 15, _ => rfl
                          | 16, _ => rfl
                          | 17, _ => rfl
                          | 18, _ => rfl
                          | 19, _ => rfl
                          | 20, _ => rfl
                          | 21, _ => rfl
                          | 22, _ => rfl
                          | n + 23, _ => rfl
                    | 8, ho, hD, hpre =>
                      cases (show some _ = some oo' from ho)
                      have e67 := ev_nfK (hV 4 67 rfl (hpre 4 (by kernel_rfl)))
                      have e70 := ev_nfK (hV 7 70 rfl (hpre 7 (by kernel_rfl)))
                      have n21 : D 21 = false := by
                        cases hd : D 21 with
                        | false => rfl
                        | true => exact absurd (hcl 21 8 hd (by kernel_rfl)) (by rw [hD]; exact Bool.false_ne_true)
                      have hJ := h1 n21
                      have n11 : D 11 = false := by
                        cases hd : D 11 with
                        | false => rfl
                        | true => exact absurd (hcl 11 8 hd (by kernel_rfl)) (by rw [hD]; exact Bool.false_ne_true)
                      have n14 : D 14 = false := by
                        cases hd : D 14 with
                        | false => rfl
                        | true => exact absurd (hcl 11 8 (hcl 14 11 hd (by kernel_rfl)) (by kernel_rfl)) (by rw [hD]; exact Bool.false_ne_true)
                      refine runsTo_monoY (runs_appY elemInt (s := .tmp 67) (x := .tmp 70) rfl W.heap.size (lS + 1) q.c0 q.a0 (nv (S ++ [v])) hJ.grows.size ((hV 4 67 rfl (hpre 4 (by kernel_rfl))).trans rfl) (hJ.r0 (hpre 4 (by kernel_rfl)) hD) q.g1 1 [.int .i64 (tk : Int)] ((hV 7 70 rfl (hpre 7 (by kernel_rfl))).trans rfl) rfl (fun j u hu => by rw [(hJ.b0 (hpre 7 (by kernel_rfl)) hD).cell]; exact hu) (fun u hu => by simp at hu; subst hu; rfl) (by omega)) (fun uu w2 hq => ?_)
                      obtain ⟨A5, c5, hu, ho5, ht5, hA5⟩ := hq
                      refine ⟨{ q with a1 := A5, c1 := c5 }, ⟨fun _ => hJ.k8 (hpre 4 (by kernel_rfl)) hD n11 n14 ht5 ho5 hA5, fun hd => absurd (show D 21 = true by simpa using hd) (by rw [n21]; exact Bool.false_ne_true)⟩, fun j _ hDj => ?_, .inr hu⟩
                      · match j, hDj with
                        | 0, _ => rfl
                        | 1, _ => rfl
                        | 2, _ => rfl
                        | 3, _ => rfl
                        | 4, _ => rfl
                        | 5, _ => rfl
                        | 6, _ => rfl
                        | 7, _ => rfl
                        | 8, hDj => exact absurd hDj (by rw [hD]; exact Bool.false_ne_true)
                        | 9, _ => rfl
                        | 10, _ => rfl
                        | 11, _ => rfl
                        | 12, _ => rfl
                        | 13, _ => rfl
                        | 14, _ => rfl
                        | 15, _ => rfl
                        | 16, _ => rfl
                        | 17, _ => rfl
                        | 18, _ => rfl
                        | 19, _ => rfl
                        | 20, _ => rfl
                        | 21, _ => rfl
                        | 22, _ => rfl
                        | n + 23, _ => rfl
                    | 9, ho, hD, hpre =>
                      cases (show some _ = some oo' from ho)
                      have n21 : D 21 = false := by
                        cases hd : D 21 with
                        | false => rfl
                        | true => exact absurd (hcl 11 9 (hcl 14 11 (hcl 21 14 hd (by kernel_rfl)) (by kernel_rfl)) (by kernel_rfl)) (by rw [hD]; exact Bool.false_ne_true)
                      have hJ := h1 n21
                      refine runsTo_monoY (Q := fun uu w2 => w2 = w1.alloc (.cells #[] 3) ∧ uu = (.slice (some ⟨w1.heap.size, 0, none⟩) 0 0 : Value)) ?_ (fun uu w2 hq => ?_)
                      · clear h1 h2 hJ
                        go_simp
                        all_goals exact ⟨rfl, rfl⟩
                      · obtain ⟨rfl, hu⟩ := hq
                        refine ⟨{ q with g2 := w1.heap.size }, ⟨fun _ => hJ.k9, fun hd => absurd (show D 21 = true by simpa using hd) (by rw [n21]; exact Bool.false_ne_true)⟩, fun j _ hDj => ?_, .inr hu⟩
                        · match j, hDj with
                          | 0, _ => rfl
                          | 1, _ => rfl
                          | 2, _ => rfl
                          | 3, _ => rfl
                          | 4, _ => rfl
                          | 5, _ => rfl
                          | 6, _ => rfl
                          | 7, _ => rfl
                          | 8, _ => rfl
                          | 9, hDj => exact absurd hDj (by rw [hD]; exact Bool.false_ne_true)
                          | 10, _ => rfl
                          | 11, _ => rfl
                          | 12, _ => rfl
                          | 13, _ => rfl
                          | 14, _ => rfl
                          | 15, _ => rfl
                          | 16, _ => rfl
                          | 17, _ => rfl
                          | 18, _ => rfl
                          | 19, _ => rfl
                          | 20, _ => rfl
                          | 21, _ => rfl
                          | 22, _ => rfl
                          | n + 23, _ => rfl
                    | 10, ho, hD, hpre =>
                      cases (show some _ = some oo' from ho)
                      have e3 := ev_nfK ((hO 3 (notDstL (by kernel_rfl))).trans rfl)
                      have n21 : D 21 = false := by
                        cases hd : D 21 with
                        | false => rfl
                        | true => exact absurd (hcl 11 10 (hcl 14 11 (hcl 21 14 hd (by kernel_rfl)) (by kernel_rfl)) (by kernel_rfl)) (by rw [hD]; exact Bool.false_ne_true)
                      have hJ := h1 n21
                      have zG := aG.grow hJ.grows
                      have zE := aE.grow hJ.grows
                      refine runsTo_monoY (Q := fun uu w2 => w2 = w1 ∧ uu = (.slice Ae lp ce : Value)) ?_ (fun uu w2 hq => ⟨q, ?_, fun _ _ _ => rfl, .inr hq.2⟩)
                      · clear h1 h2 hJ
                        go_simp
                        all_goals exact ⟨rfl, rfl⟩
                      · obtain ⟨rfl, _⟩ := hq
                        exact ⟨fun _ => hJ.congr (fun j hj => if_neg (by omega)), fun hd => absurd (show D 21 = true by simpa using hd) (by rw [n21]; exact Bool.false_ne_true)⟩
                    | 11, ho, hD, hpre =>
                      cases (show some _ = some oo' from ho)
                      have e72 := ev_nfK (hV 9 72 rfl (hpre 9 (by kernel_rfl)))
                      have e73 := ev_nfK (hV 10 73 rfl (hpre 10 (by kernel_rfl)))
                      have n21 : D 21 = false := by
                        cases hd : D 21 with
                        | false => rfl
                        | true => exact absurd (hcl 14 11 (hcl 21 14 hd (by kernel_rfl)) (by kernel_rfl)) (by rw [hD]; exact Bool.false_ne_true)
                      have hJ := h1 n21
                      refine runsTo_monoY (runs_appE elemInt (s := .tmp 72) (x := .tmp 73) rfl W.heap.size q.g2 hJ.grows.size ((hV 9 72 rfl (hpre 9 (by kernel_rfl))).trans rfl) (hJ.e1 (hpre 9 (by kernel_rfl)) hD) Ae lp ce (nv pre) ((hV 10 73 rfl (hpre 10 (by kernel_rfl))).trans rfl) (HG.out.edges.rd.grows (hgW.trans hJ.grows)) HNIL.out HEN.out (nvOneY _) (by omega)) (fun uu w2 hq => ?_)
                      obtain ⟨A5, c5, hu, ho5, hg5, hA5⟩ := hq
                      refine ⟨{ q with a2 := A5, c2 := c5 }, ⟨fun _ => hJ.k11 (hpre 8 (by kernel_rfl)) (hpre 9 (by kernel_rfl)) hD hg5 ho5 hA5, fun hd => absurd (show D 21 = true by simpa using hd) (by rw [n21]; exact Bool.false_ne_true)⟩, fun j _ hDj => ?_, .inr hu⟩
                      · match j, hDj with
                        | 0, _ => rfl
                        | 1, _ => rfl
                        | 2, _ => rfl
                        | 3, _ => rfl
                        | 4, _ => rfl
                        | 5, _ => rfl
                        | 6, _ => rfl
                        | 7, _ => rfl
                        | 8, _ => rfl
                        | 9, _ => rfl
                        | 10, _ => rfl
                        | 11, hDj => exact absurd hDj (by rw [hD]; exact Bool.false_ne_true)
                        | 12, _ => rfl
                        | 13, _ => rfl
                        | 14, _ => rfl
                        | 15, _ => rfl
                        | 16, _ => rfl
                        | 17, _ => rfl
                        | 18, _ => rfl
                        | 19, _ => rfl
                        | 20, _ => rfl
                        | 21, _ => rfl
                        | 22, _ => rfl
                        | n + 23, _ => rfl
                    | 12, ho, hD, hpre =>
                      cases (show some _ = some oo' from ho)
                      have e16 := ev_nfK ((hO 16 (notDstL (by kernel_rfl))).trans rfl)
                      have n21 : D 21 = false := by
                        cases hd : D 21 with
                        | false => rfl
                        | true => exact absurd (hcl 13 12 (hcl 14 13 (hcl 21 14 hd (by kernel_rfl)) (by kernel_rfl)) (by kernel_rfl)) (by rw [hD]; exact Bool.false_ne_true)
                      have hJ := h1 n21
                      have zG := aG.grow hJ.grows
                      have zE := aE.grow hJ.grows
                      refine runsTo_monoY (Q := fun uu w2 => w2 = w1 ∧ uu = (.int .i64 (k : Int) : Value)) ?_ (fun uu w2 hq => ⟨q, ?_, fun _ _ _ => rfl, .inr hq.2⟩)
                      · clear h1 h2 hJ
                        go_simp
                        all_goals exact ⟨rfl, rfl⟩
                      · obtain ⟨rfl, _⟩ := hq
                        exact ⟨fun _ => hJ.congr (fun j hj => if_neg (by omega)), fun hd => absurd (show D 21 = true by simpa using hd) (by rw [n21]; exact Bool.false_ne_true)⟩
                    | 13, ho, hD, hpre =>
                      cases (show some _ = some oo' from ho)
                      have e75 := ev_nfK (hV 12 75 rfl (hpre 12 (by kernel_rfl)))
                      have n21 : D 21 = false := by
                        cases hd : D 21 with
                        | false => rfl
                        | true => exact absurd (hcl 14 13 (hcl 21 14 hd (by kernel_rfl)) (by kernel_rfl)) (by rw [hD]; exact Bool.false_ne_true)
                      have hJ := h1 n21
                      refine runsTo_monoY (Q := fun uu w2 => w2 = w1.alloc (.cells #[.int .i64 (k : Int)] 3) ∧ uu = (.slice (some ⟨w1.heap.size, 0, none⟩) 1 1 : Value)) ?_ (fun uu w2 hq => ?_)
                      · clear h1 h2 hJ
                        go_simp
                        all_goals exact ⟨rfl, rfl⟩
                      · obtain ⟨rfl, hu⟩ := hq
                        refine ⟨{ q with g3 := w1.heap.size }, ⟨fun _ => hJ.k13, fun hd => absurd (show D 21 = true by simpa using hd) (by rw [n21]; exact Bool.false_ne_true)⟩, fun j _ hDj => ?_, .inr hu⟩
                        · match j, hDj with
                          | 0, _ => rfl
                          | 1, _ => rfl
                          | 2, _ => rfl
                          | 3, _ => rfl
                          | 4, _ => rfl
                          | 5, _ => rfl
                          | 6, _ => rfl
                          | 7, _ => rfl
                          | 8, _ => rfl
                          | 9, _ => rfl
                          | 10, _ => rfl
                          | 11, _ => rfl
                          | 12, _ => rfl
                          | 13, hDj => exact absurd hDj (by rw [hD]; exact Bool.false_ne_true)
                          | 14, _ => rfl
                          | 15, _ => rfl
                          | 16, _ => rfl
                          | 17, _ => rfl
                          | 18, _ => rfl
                          | 19, _ => rfl
                          | 20, _ => rfl
                          | 21, _ => rfl
                          | 22, _ => rfl
                          | n + 23, _ => rfl
                    | 14, ho, hD, hpre =>
                      cases (show some _ = some oo' from ho)
                      have e74 := ev_nfK (hV 11 74 rfl (hpre 11 (by kernel_rfl)))
                      have e76 := ev_nfK (hV 13 76 rfl (hpre 13 (by kernel_rfl)))
                      have n21 : D 21 = false := by
                        cases hd : D 21 with
                        | false => rfl
                        | true => exact absurd (hcl 21 14 hd (by kernel_rfl)) (by rw [hD]; exact Bool.false_ne_true)
                      have hJ := h1 n21
                      have y11 : D 11 = true := hpre 11 (by kernel_rfl)
                      have y8 : D 8 = true := hcl 11 8 y11 (by kernel_rfl)
                      have y4 : D 4 = true := hcl 8 4 y8 (by kernel_rfl)
                      refine runsTo_monoY (runs_appY elemInt (s := .tmp 74) (x := .tmp 76) rfl W.heap.size lp q.c2 q.a2 (nv pre) hJ.grows.size ((hV 11 74 rfl y11).trans rfl) (hJ.r2 y11 hD) q.g3 1 [.int .i64 (k : Int)] ((hV 13 76 rfl (hpre 13 (by kernel_rfl))).trans rfl) rfl (fun j u hu => by rw [(hJ.b1 (hpre 13 (by kernel_rfl)) hD).cell]; exact hu) (fun u hu => by simp at hu; subst hu; rfl) (by omega)) (fun uu w2 hq => ?_)
                      obtain ⟨A5, c5, hu, ho5, ht5, hA5⟩ := hq
                      refine ⟨{ q with a3 := A5, c3 := c5 }, ⟨fun _ => hJ.k14 y4 y8 y11 hD ht5 ho5, fun hd => absurd (show D 21 = true by simpa using hd) (by rw [n21]; exact Bool.false_ne_true)⟩, fun j _ hDj => ?_, .inr hu⟩
                      · match j, hDj with
                        | 0, _ => rfl
                        | 1, _ => rfl
                        | 2, _ => rfl
                        | 3, _ => rfl
                        | 4, _ => rfl
                        | 5, _ => rfl
                        | 6, _ => rfl
                        | 7, _ => rfl
                        | 8, _ => rfl
                        | 9, _ => rfl
                        | 10, _ => rfl
                        | 11, _ => rfl
                        | 12, _ => rfl
                        | 13, _ => rfl
                        | 14, hDj => exact absurd hDj (by rw [hD]; exact Bool.false_ne_true)
                        | 15, _ => rfl
                        | 16, _ => rfl
                        | 17, _ => rfl
                        | 18, _ => rfl
                        | 19, _ => rfl
                        | 20, _ => rfl
                        | 21, _ => rfl
                        | 22, _ => rfl
                        | n + 23, _ => rfl
                    | 15, ho, hD, hpre =>
                      cases (show some _ = some oo' from ho)
                      have e4 := ev_nfK ((hO 4 (notDstL (by kernel_rfl))).trans rfl)
                      have n21 : D 21 = false := by
                        cases hd : D 21 with
                        | false => rfl
                        | true => exact absurd (hcl 18 15 (hcl 21 18 hd (by kernel_rfl)) (by kernel_rfl)) (by rw [hD]; exact Bool.false_ne_true)
                      have hJ := h1 n21
                      have zG := aG.grow hJ.grows
                      have zE := aE.grow hJ.grows
                      refine runsTo_monoY (Q := fun uu w2 => w2 = w1 ∧ uu = (.int .u64 (wp : Int) : Value)) ?_ (fun uu w2 hq => ⟨q, ?_, fun _ _ _ => rfl, .inr hq.2⟩)
                      · clear h1 h2 hJ
                        go_simp
                        all_goals exact ⟨rfl, rfl⟩
                      · obtain ⟨rfl, _⟩ := hq
                        exact ⟨fun _ => hJ.congr (fun j hj => if_neg (by omega)), fun hd => absurd (show D 21 = true by simpa using hd) (by rw [n21]; exact Bool.false_ne_true)⟩
                    | 16, ho, hD, hpre =>
                      cases (show some _ = some oo' from ho)
                      have e17 := ev_nfK ((hO 17 (notDstL (by kernel_rfl))).trans rfl)
                      have n21 : D 21 = false := by
                        cases hd : D 21 with
                        | false => rfl
                        | true => exact absurd (hcl 17 16 (hcl 18 17 (hcl 21 18 hd (by kernel_rfl)) (by kernel_rfl)) (by kernel_rfl)) (by rw [hD]; exact Bool.false_ne_true)
                      have hJ := h1 n21
                      have zG := aG.grow hJ.grows
                      have zE := aE.grow hJ.grows
                      refine runsTo_monoY (Q := fun uu w2 => w2 = w1 ∧ uu = (.pointer (some ⟨bx, 2, none⟩) : Value)) ?_ (fun uu w2 hq => ⟨q, ?_, fun _ _ _ => rfl, .inr hq.2⟩)
                      · clear h1 h2 hJ
                        go_simp
                        all_goals exact ⟨rfl, rfl⟩
                      · obtain ⟨rfl, _⟩ := hq
                        exact ⟨fun _ => hJ.congr (fun j hj => if_neg (by omega)), fun hd => absurd (show D 21 = true by simpa using hd) (by rw [n21]; exact Bool.false_ne_true)⟩
                    | 17, ho, hD, hpre =>
                      cases (show some _ = some oo' from ho)
                      have e79 := ev_nfK (hV 16 79 rfl (hpre 16 (by kernel_rfl)))
                      have n21 : D 21 = false := by
                        cases hd : D 21 with
                        | false => rfl
                        | true => exact absurd (hcl 18 17 (hcl 21 18 hd (by kernel_rfl)) (by kernel_rfl)) (by rw [hD]; exact Bool.false_ne_true)
                      have hJ := h1 n21
                      have zG := aG.grow hJ.grows
                      have zE := aE.grow hJ.grows
                      refine runsTo_monoY (Q := fun uu w2 => w2 = w1 ∧ uu = (.int .u64 wk : Value)) ?_ (fun uu w2 hq => ⟨q, ?_, fun _ _ _ => rfl, .inr hq.2⟩)
                      · clear h1 h2 hJ
                        go_simp
                        all_goals exact ⟨rfl, rfl⟩
                      · obtain ⟨rfl, _⟩ := hq
                        exact ⟨fun _ => hJ.congr (fun j hj => if_neg (by omega)), fun hd => absurd (show D 21 = true by simpa using hd) (by rw [n21]; exact Bool.false_ne_true)⟩
                    | 18, ho, hD, hpre =>
                      cases (show some _ = some oo' from ho)
                      have e78 := ev_nfK (hV 15 78 rfl (hpre 15 (by kernel_rfl)))
                      have e80 := ev_nfK (hV 17 80 rfl (hpre 17 (by kernel_rfl)))
                      have n21 : D 21 = false := by
                        cases hd : D 21 with
                        | false => rfl
                        | true => exact absurd (hcl 21 18 hd (by kernel_rfl)) (by rw [hD]; exact Bool.false_ne_true)
                      have hJ := h1 n21
                      have zG := aG.grow hJ.grows
                      have zE := aE.grow hJ.grows
                      refine runsTo_monoY (Q := fun uu w2 => w2 = w1 ∧ uu = (.int .u64 ((wp : Int) + wk) : Value)) ?_ (fun uu w2 hq => ⟨q, ?_, fun _ _ _ => rfl, .inr hq.2⟩)
                      · clear h1 h2 hJ
                        go_simp
                        try simp (disch := omega) only [IntWalk.u64_in]
                        all_goals exact ⟨rfl, rfl⟩
                      · obtain ⟨rfl, _⟩ := hq
                        exact ⟨fun _ => hJ.congr (fun j hj => if_neg (by omega)), fun hd => absurd (show D 21 = true by simpa using hd) (by rw [n21]; exact Bool.false_ne_true)⟩
                    | 19, ho, hD, hpre =>
                      cases (show some _ = some oo' from ho)
                      have n22 : D 22 = false := by
                        cases hd : D 22 with
                        | false => rfl
                        | true => exact absurd (hcl 21 19 (hcl 22 21 hd (by kernel_rfl)) (by kernel_rfl)) (by rw [hD]; exact Bool.false_ne_true)
                      have e5 := ev_nfK ((hO 5 (lateDst (k := 22) (by kernel_rfl) rfl n22)).trans rfl)
                      have n21 : D 21 = false := by
                        cases hd : D 21 with
                        | false => rfl
                        | true => exact absurd (hcl 21 19 hd (by kernel_rfl)) (by rw [hD]; exact Bool.false_ne_true)
                      have hJ := h1 n21
                      have zG := aG.grow hJ.grows
                      have zE := aE.grow hJ.grows
                      refine runsTo_monoY (Q := fun uu w2 => w2 = w1 ∧ uu = (.slice A8 rs8.length c8 : Value)) ?_ (fun uu w2 hq => ⟨q, ?_, fun _ _ _ => rfl, .inr hq.2⟩)
                      · clear h1 h2 hJ
                        go_simp
                        all_goals exact ⟨rfl, rfl⟩
                      · obtain ⟨rfl, _⟩ := hq
                        exact ⟨fun _ => hJ.congr (fun j hj => if_neg (by omega)), fun hd => absurd (show D 21 = true by simpa using hd) (by rw [n21]; exact Bool.false_ne_true)⟩
                    | 20, ho, hD, hpre =>
                      cases (show some _ = some oo' from ho)
                      have e6 := ev_nfK ((hO 6 (notDstL (by kernel_rfl))).trans rfl)
                      have n21 : D 21 = false := by
                        cases hd : D 21 with
                        | false => rfl
                        | true => exact absurd (hcl 21 20 hd (by kernel_rfl)) (by rw [hD]; exact Bool.false_ne_true)
                      have hJ := h1 n21
                      have zG := aG.grow hJ.grows
                      have zE := aE.grow hJ.grows
                      refine runsTo_monoY (Q := fun uu w2 => w2 = w1 ∧ uu = (.int .i64 (most : Int) : Value)) ?_ (fun uu w2 hq => ⟨q, ?_, fun _ _ _ => rfl, .inr hq.2⟩)
                      · clear h1 h2 hJ
                        go_simp
                        all_goals exact ⟨rfl, rfl⟩
                      · obtain ⟨rfl, _⟩ := hq
                        exact ⟨fun _ => hJ.congr (fun j hj => if_neg (by omega)), fun hd => absurd (show D 21 = true by simpa using hd) (by rw [n21]; exact Bool.false_ne_true)⟩
                    | 21, ho, hD, hpre =>
                      cases (show some _ = some oo' from ho)
                      have e63 := ev_nfK (hV 0 63 rfl (hpre 0 (by kernel_rfl)))
                      have e64 := ev_nfK (hV 1 64 rfl (hpre 1 (by kernel_rfl)))
                      have e71 := ev_nfK (hV 8 71 rfl (hpre 8 (by kernel_rfl)))
                      have e77 := ev_nfK (hV 14 77 rfl (hpre 14 (by kernel_rfl)))
                      have e81 := ev_nfK (hV 18 81 rfl (hpre 18 (by kernel_rfl)))
                      have e82 := ev_nfK (hV 19 82 rfl (hpre 19 (by kernel_rfl)))
                      have e83 := ev_nfK (hV 20 83 rfl (hpre 20 (by kernel_rfl)))
                      have hJ := h1 hD
                      have n22 : D 22 = false := by
                        cases hd : D 22 with
                        | false => rfl
                        | true => exact absurd (hcl 22 21 hd (by kernel_rfl)) (by rw [hD]; exact Bool.false_ne_true)
                      have CC := hide (HCALL.out q.a1 q.a3 q.c1 q.c3 w1 hJ.grows (hJ.r1 (hpre 8 (by kernel_rfl))) (hJ.r3 (hpre 14 (by kernel_rfl))))
                      refine runsTo_monoY (Q := fun uu w2 => ∃ aR nR cR, uu = .slice aR nR cR ∧ ∃ rs' : List Rt, rs'.length = nR ∧ GrL wB w N E t f v S pre U Ao w2 b4 (some ⟨bE, oE, none⟩) nE c gn0 lS cn Ae lp ce (k + 1) aR cR rs') ?_ (fun uu w2 hq => ?_)
                      · clear h1 h2 hJ
                        go_simp
                        refine CC.out.mono ?_
                        rintro e w2 ⟨A5, c5, rs5, rfl, hG5⟩
                        exact ⟨_, rfl, A5, rs5.length, c5, rfl, rs5, rfl, hG5⟩
                      · obtain ⟨aR, nR, cR, hu, rs5, hl5, hG5⟩ := hq
                        refine ⟨{ q with aR := aR, nR := nR, cR := cR }, ⟨fun hd => absurd hd (by simp), fun _ => ⟨rs5, hl5, hG5⟩⟩, fun j _ hDj => ?_, .inr hu⟩
                        · match j, hDj with
                          | 0, _ => rfl
                          | 1, _ => rfl
                          | 2, _ => rfl
                          | 3, _ => rfl
                          | 4, _ => rfl
                          | 5, _ => rfl
                          | 6, _ => rfl
                          | 7, _ => rfl
                          | 8, _ => rfl
                          | 9, _ => rfl
                          | 10, _ => rfl
                          | 11, _ => rfl
                          | 12, _ => rfl
                          | 13, _ => rfl
                          | 14, _ => rfl
                          | 15, _ => rfl
                          | 16, _ => rfl
                          | 17, _ => rfl
                          | 18, _ => rfl
                          | 19, _ => rfl
                          | 20, _ => rfl
                          | 21, hDj => exact absurd hDj (by rw [hD]; exact Bool.false_ne_true)
                          | 22, hDj => exact absurd hDj (by rw [n22]; exact Bool.false_ne_true)
                          | n + 23, _ => rfl
                    | 22, ho, hD, hpre =>
                      cases (show some _ = some oo' from ho)
                      have e84 := ev_nfK (hV 21 84 rfl (hpre 21 (by kernel_rfl)))
                      have y21 : D 21 = true := hpre 21 (by kernel_rfl)
                      have hG5 := h2 y21
                      refine runsTo_monoY (Q := fun uu w2 => w2 = w1 ∧ uu = (.slice q.aR q.nR q.cR : Value)) ?_ (fun uu w2 hq => ⟨q, ?_, fun _ _ _ => rfl, .inr hq.2⟩)
                      · clear h1 h2 hG5
                        go_simp
                        all_goals exact ⟨rfl, rfl⟩
                      · obtain ⟨rfl, _⟩ := hq
                        exact ⟨fun hd => absurd (show D 21 = false by simpa using hd) (by rw [y21]; exact Bool.noConfusion), fun _ => hG5⟩
                    | n + 23, ho, hD, hpre => cases ho
              case he =>
                subst hVV
                intro q w1 hM
                obtain ⟨rs5, hl5, hG5⟩ := hM.2 rfl
                simp only [putAll, dstOf, List.length_cons, List.length_nil, Nat.reduceAdd, List.getElem?_cons_zero, List.getElem?_cons_succ, Option.bind_some, List.getD_cons_zero, List.getD_cons_succ, Act.put, List.setIfInBounds_toArray, List.set_cons_zero, List.set_cons_succ]
                have HG5 := hide hG5
                clear hG5 HG
                obtain ⟨y5, hy5⟩ := HG5.out.grown.later
                rw [hy5] at HG5 ⊢
                clear hy5
                go_wp2_with fail
                go_roundw
                case measure => simp [Go.RowKit.intOf]; omega
                case rel => exact ⟨k + 1, q.aR, q.cR, rs5, by omega, by go_num, by rw [hl5], y5, rfl, HG5⟩
          · have HNO := hide (fun (X : World) (g : Grows y.now X) => HG.out.skip g (fun hc => hfv hc.1))
            have hfI : ((fN E k : Int) == (v : Int)) = false := beq_eq_false_iff_ne.2 (by omega)
            generalize tN E k = tk at *
            generalize (ge E k).w = wk at *
            generalize fN E k = fk at *
            clear hmem hed hfk htk hwk CH
            go_wp2_with fail
            go_roundw
            case measure => simp [Go.RowKit.intOf]; omega
            case rel => exact ⟨k + 1, A8, c8, rs8, by omega, by go_num, rfl, ⟨(y.now.alloc (.cells #[.int .i64 (fk : Int), .int .i64 (tk : Int), .int .u64 wk] 84)), y.grows.trans ((Grows.refl _).new _)⟩, rfl, hide (HNO.out (y.now.alloc (.cells #[.int .i64 (fk : Int), .int .i64 (tk : Int), .int .u64 wk] 84)) ((Grows.refl _).new _))⟩
        · obtain rfl : k = nE := by omega
          go_wp2_with fail
          go_ret
          exact ⟨A8, c8, rs8, rfl, HG.out.out, HG.out.touch, HG.out.from_⟩
end Go.Proofs.YtgplpgldhoelcaaGreat

