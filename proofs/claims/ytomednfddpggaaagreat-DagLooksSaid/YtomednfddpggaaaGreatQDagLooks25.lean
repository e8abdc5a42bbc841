/- The law DagLooks: for every input it returns true, and each argument reads as before. No condition. -/
import Derived.Test.YtomednfddpggaaaGreatQDagLooks22
import Derived.Test.YtomednfddpggaaaGreatQDagLooks23
import Derived.Test.YtomednfddpggaaaGreatQDagLooks24
import Derived.Test.YtomednfddpggaaaGreatQDagLooks14
import Derived.Test.YtomednfddpggaaaGreatQDagLooks01
/- The law DagLooks, walked: which edges and nodes are on some shortest way, and which edges on each. -/
namespace Go.Proofs.YtomednfddpggaaaGreat
open Go Go.RowKit
attribute [local go_sem] Oper.semAt_some
set_option maxRecDepth 40000 in
set_option maxHeartbeats 8000000 in
theorem dagLooksNo (N s t v : Int) (A : Option Addr) (n c : Nat) (r : Int) (hr : r ≠ 0) (w : World) (hn : n ≤ 60) (hN : N ≤ 30 ∨ 4096 < N)
    (CL : Hid (∀ W, Calls Tryz.prog 6 #[.agg #[.int .i64 N, .slice A n c]] W fun e w' => e = .returned (.bool true) ∧ Grows W w'))
    (CX : Hid (∀ W, Grows w W → Calls Tryz.prog 8 #[.agg #[.int .i64 N, .slice A n c], .int .i64 s, .int .i64 t] W fun x w' => x = .returned (.tuple #[.pointer none, .int .i64 r]) ∧ Grows W w'))
    (CY : Hid (∀ W, Grows w W → Calls Tryz.prog 9 #[.agg #[.int .i64 N, .slice A n c], .int .i64 s, .int .i64 t] W fun x w' => x = .returned (.tuple #[r16Z, .int .i64 r]) ∧ Grows W w')) :
    Calls Tryz.prog 3 #[.agg #[.int .i64 N, .slice A n c], .int .i64 s, .int .i64 t, .int .i64 v] w fun e w' => e = .returned (.bool true) ∧ Grows w w' := by
  have CA := hide (fun (W : World) => alive16 W)
  have hb : (r != 0) = true := bne_iff_ne.2 hr
  have h2 : (r != r) = false := by simp
  have hn2 : ¬ (60 : Int) < (n : Int) := by omega
  unfold r16Z at CY
  clear hr
  rcases hN with hN | hN
  · have h30 : ¬ (30 : Int) < N := by omega
    clear hN
    go_enter Tryz.func3, Tryz.ntmps3
    go_wp2_with (first
      | (go_at_call 6; refine (CL.out _).mono ?_; rintro e w' ⟨rfl, hg⟩; obtain ⟨x1, rfl⟩ := hg.later; clear hg)
      | (go_at_call 8; refine (CX.out _ GG).mono ?_; rintro e w' ⟨rfl, hg⟩; obtain ⟨x2, rfl⟩ := hg.later; clear hg)
      | (go_at_call 9; refine (CY.out _ GG).mono ?_; rintro e w' ⟨rfl, hg⟩; obtain ⟨x3, rfl⟩ := hg.later; clear hg)
      | (go_at_call 7; refine (CA.out _).mono ?_; rintro e w' ⟨rfl, hg⟩; obtain ⟨x4, rfl⟩ := hg.later; clear hg))
    go_ret
    exact ⟨rfl, GG⟩
  · have h30 : (30 : Int) < N := by omega
    have h40 : ¬ N ≤ 4096 := by omega
    clear hN
    go_enter Tryz.func3, Tryz.ntmps3
    go_wp2_with (first
      | (go_at_call 6; refine (CL.out _).mono ?_; rintro e w' ⟨rfl, hg⟩; obtain ⟨x1, rfl⟩ := hg.later; clear hg)
      | (go_at_call 8; refine (CX.out _ GG).mono ?_; rintro e w' ⟨rfl, hg⟩; obtain ⟨x2, rfl⟩ := hg.later; clear hg)
      | (go_at_call 9; refine (CY.out _ GG).mono ?_; rintro e w' ⟨rfl, hg⟩; obtain ⟨x3, rfl⟩ := hg.later; clear hg)
      | (go_at_call 7; refine (CA.out _).mono ?_; rintro e w' ⟨rfl, hg⟩; obtain ⟨x4, rfl⟩ := hg.later; clear hg))
    go_ret
    exact ⟨rfl, GG⟩
theorem DsF_le {N s : Nat} {E : List Edg} (hr : rightF N E = 0) (hs : s < N) (v : Nat) : gn (DsF N E s) v ≤ farV := by
  by_cases hv : v < N
  · have := dF_is hr hs hv
    have e : gn (DsF N E s) v = dF N E s v := rfl
    rw [e]
    rcases this with ⟨h, _⟩ | ⟨h, _⟩ <;> omega
  · have hl : (DsF N E s).length = N := by unfold DsF refL; split <;> simp [cutL, rndK_len, dBeg, srchOf]
    unfold gn farV
    rw [List.getD_eq_getElem?_getD, List.getElem?_eq_none (by omega)]
    simp
theorem BkF_le {N t : Nat} {E : List Edg} (hr : rightF N E = 0) (ht : t < N) (v : Nat) : gn (BkF N E t) v ≤ farV := by
  by_cases hv : v < N
  · have e : gn (BkF N E t) v = dF N E v t := dF_back hr hv ht
    have := dF_is hr hv ht
    rw [e]
    rcases this with ⟨h, _⟩ | ⟨h, _⟩ <;> omega
  · have hl : (BkF N E t).length = N := by unfold BkF refL; split <;> simp [cutL, rndK_len, dBeg, srchOf]
    unfold gn farV
    rw [List.getD_eq_getElem?_getD, List.getElem?_eq_none (by omega)]
    simp
theorem brg_is {N s t : Nat} {E : List Edg} (hr : rightF N E = 0) (hs : s < N) (ht : t < N) (hf : gn (DsF N E s) t < farV) :
    brgL (ovL E (DsF N E s) (onP N E (DsF N E s) (BkF N E t) t)) (fltN (onP N E (DsF N E s) (BkF N E t) t) E.length) = fltL (brP16 N E s (DsF N E s) (BkF N E t) t) E.length := by
  have h1 := fltN_filter (onP N E (DsF N E s) (BkF N E t) t) (fun i => !ovL E (DsF N E s) (onP N E (DsF N E s) (BkF N E t) t) i) E.length
  have h2 := bridges_is hr hs ht hf
  unfold brgL
  rw [h1, h2]
  rfl
theorem thL_is {N s t : Nat} {E : List Edg} {ol : List Int} (hr : rightF N E = 0) (hs : s < N) (ht : t < N) (h : OlOk N E s (max (gn (DsF N E s) t) 1) ol) : srtI (thL N (DsF N E s) (BkF N E t) t ol) = fltL (fun k => thB N (DsF N E s) (BkF N E t) t k) N := by
  obtain ⟨h1, h2, h3⟩ := h
  refine nodes_is h1 h2 (fun v hv hb => h3 v hv ?_)
  unfold thB at hb
  rw [Bool.and_eq_true, decide_eq_true_eq, decide_eq_true_eq, Int.toNat_natCast] at hb
  have e : gn (DsF N E s) v = dF N E s v := rfl
  rw [← e]
  omega
set_option maxRecDepth 60000 in
set_option maxHeartbeats 8000000 in
theorem dagLooksYes (N s t : Nat) (v : Int) (A : Option Addr) (c : Nat) (E : List Edg) (w : World) (h : Rd w A 3 E.length (esCells E)) (hr : rightF N E = 0) (hs : s < N) (ht : t < N) (hf : gn (DsF N E s) t < farV) (hn : E.length ≤ 60) (hN : N ≤ 30)
    (CL : Hid (∀ W, Calls Tryz.prog 6 #[.agg #[.int .i64 (N : Int), .slice A E.length c]] W fun e w' => e = .returned (.bool true) ∧ Grows W w')) :
    Calls Tryz.prog 3 #[.agg #[.int .i64 (N : Int), .slice A E.length c], .int .i64 (s : Int), .int .i64 (t : Int), .int .i64 v] w fun e w' => e = .returned (.bool true) ∧ Grows w w' := by
  have CA := hide (fun (W : World) => alive16 W)
  have hT := DsF_le hr hs
  have hF := BkF_le hr ht
  have CX := hide (fun (W : World) (g : Grows w W) => dagNew N s t A c E W (h.grows g) hr hs ht hf)
  have CY := hide (fun (W : World) (g : Grows w W) => (r16New N s t A c E W (h.grows g) hr hs ht).mono (R' := fun e w' => ∃ g1 g2, e = .returned (.tuple #[r16V N s t A E.length c (some ⟨g1, 0, none⟩) N (some ⟨g2, 0, none⟩) N, .int .i64 0]) ∧ Rd w' (some ⟨g1, 0, none⟩) 1 N (wv (DsF N E s)) ∧ Rd w' (some ⟨g2, 0, none⟩) 1 N (wv (BkF N E t)) ∧ Grows W w') (fun e w' ⟨ho, hg⟩ => by
    rcases ho with ⟨_, g1, g2, rfl, h1, h2⟩ | ⟨h1, _⟩
    · exact ⟨g1, g2, rfl, h1, h2, hg⟩
    · exact absurd hf h1))
  have HBI := hide (brg_is hr hs ht hf)
  have HTI := hide (fun ol => thL_is (ol := ol) hr hs ht)
  have K1 := hide (fun (b : Nat) (ol : List Int) (W : World) (hd : DgAt W b N s t E (DsF N E s) (BkF N E t) ol) => dagFar b N s t E (DsF N E s) (BkF N E t) ol W hd ht)
  have K2 := hide (fun (b : Nat) (ol : List Int) (W : World) (hd : DgAt W b N s t E (DsF N E s) (BkF N E t) ol) => dagEdges b N s t E (DsF N E s) (BkF N E t) ol W hd hr ht hT hF)
  have K3 := hide (fun (b : Nat) (ol : List Int) (W : World) (hd : DgAt W b N s t E (DsF N E s) (BkF N E t) ol) (hl : ol.length ≤ 1000000) => dagNodes b N s t E (DsF N E s) (BkF N E t) ol W hd ht hT hF hl)
  have K4 := hide (fun (b : Nat) (ol : List Int) (W : World) (hd : DgAt W b N s t E (DsF N E s) (BkF N E t) ol) => dagThrough b N s t v E (DsF N E s) (BkF N E t) ol W hd ht hT hF)
  have K5 := hide (fun (b : Nat) (ol : List Int) (W : World) (hd : DgAt W b N s t E (DsF N E s) (BkF N E t) ol) => dagBridges b N s t E (DsF N E s) (BkF N E t) ol W hd hr ht hT hF)
  have R1 := hide (fun (i : Nat) (hi : i < E.length) (g1 g2 : Nat) (W : World) (g : Grows w W) (h1 : Rd W (some ⟨g1, 0, none⟩) 1 N (wv (DsF N E s))) (h2 : Rd W (some ⟨g2, 0, none⟩) 1 N (wv (BkF N E t))) => r16On N s t i A c E (some ⟨g1, 0, none⟩) N (some ⟨g2, 0, none⟩) N (DsF N E s) (BkF N E t) W (h.grows g) hr hi h1 h2 ht hT hF hf)
  have R2 := hide (fun (u : Int) (g1 g2 : Nat) (W : World) (h1 : Rd W (some ⟨g1, 0, none⟩) 1 N (wv (DsF N E s))) (h2 : Rd W (some ⟨g2, 0, none⟩) 1 N (wv (BkF N E t))) => r16Through N s t u A E.length c (some ⟨g1, 0, none⟩) N (some ⟨g2, 0, none⟩) N (DsF N E s) (BkF N E t) W h1 h2 ht hT hF hf)
  have R3 := hide (fun (g1 g2 : Nat) (W : World) (g : Grows w W) (h1 : Rd W (some ⟨g1, 0, none⟩) 1 N (wv (DsF N E s))) (h2 : Rd W (some ⟨g2, 0, none⟩) 1 N (wv (BkF N E t))) => r16Bridges N s t A c E (some ⟨g1, 0, none⟩) N (some ⟨g2, 0, none⟩) N (DsF N E s) (BkF N E t) W (h.grows g) hr hs ht h1 h2 hT hF hf)
  have HON := hide (fun i => show onB (DsF N E s) (BkF N E t) t (fN E i) (tN E i) (gn (wtF N E []) i) = onP N E (DsF N E s) (BkF N E t) t i from rfl)
  rw [HBI.out] at K5
  simp only [HON.out] at R1
  have hOL : ∀ ol, OlOk N E s (max (gn (DsF N E s) t) 1) ol → ol.length ≤ 1000000 := fun ol ho => by
    have h6 : ol.length ≤ ((List.range N).map fun v : Nat => (v : Int)).length := List.Nodup.length_le_of_subset ho.1 (fun v hv => by
      have := ho.2.1 v hv
      exact List.mem_map.2 ⟨v.toNat, List.mem_range.2 (by omega), by omega⟩)
    simp at h6
    omega
  have HOLL := hide hOL
  unfold r16V at CY R1 R2 R3
  have hTl : (DsF N E s).length = N := by unfold DsF refL; split <;> simp [cutL, rndK_len, dBeg, srchOf]
  have HLE := hide (fltL_len (onP N E (DsF N E s) (BkF N E t) t) E.length)
  have HLB := hide (fltL_len (brP16 N E s (DsF N E s) (BkF N E t) t) E.length)
  have HLN := hide (fltL_len (fun k => thB N (DsF N E s) (BkF N E t) t (k : Int)) N)
  clear hf hr hT hF HBI HON hOL h
  generalize hTT : DsF N E s = T at *
  generalize BkF N E t = F at *
  generalize brP16 N E s T F t = q at *
  generalize onP N E T F t = p at *
  clear hTT
  have h30 : ¬ (30 : Int) < (N : Int) := by omega
  have h60 : ¬ (60 : Int) < (E.length : Int) := by omega
  go_enter Tryz.func3, Tryz.ntmps3
  go_upto_region 9 with (first
    | (go_at_call 6; refine (CL.out _).mono ?_; rintro e w' ⟨rfl, hg⟩; obtain ⟨x1, rfl⟩ := hg.later; clear hg)
    | (go_at_call 8; refine (CX.out _ GG).mono ?_; rintro e w' ⟨b, ol, rfl, hol, hd, hg⟩; obtain ⟨x2, rfl⟩ := hg.later; have HOL := hide hol; have HDG := hide hd; clear hg hol hd)
    | (go_at_call 9; refine (CY.out _ GG).mono ?_; rintro e w' ⟨g1, g2, rfl, h1, h2, hg⟩; obtain ⟨x3, rfl⟩ := hg.later; have HR1 := hide h1; have HR2 := hide h2; clear hg h1 h2))
  have hgw : Grows w (x3.now.alloc (.cells #[.int .i64 (N : Int), .slice A E.length c, .int .i64 (s : Int), .int .i64 (t : Int), .slice (some ⟨g1, 0, none⟩) N N, .slice (some ⟨g2, 0, none⟩) N N] 33)) := GG
  have hg2 : Grows x2.now (x3.now.alloc (.cells #[.int .i64 (N : Int), .slice A E.length c, .int .i64 (s : Int), .int .i64 (t : Int), .slice (some ⟨g1, 0, none⟩) N N, .slice (some ⟨g2, 0, none⟩) N N] 33)) := GG
  have hg3 : Grows x3.now (x3.now.alloc (.cells #[.int .i64 (N : Int), .slice A E.length c, .int .i64 (s : Int), .int .i64 (t : Int), .slice (some ⟨g1, 0, none⟩) N N, .slice (some ⟨g2, 0, none⟩) N N] 33)) := GG
  have a11 : Arr (x3.now.alloc (.cells #[.int .i64 (N : Int), .slice A E.length c, .int .i64 (s : Int), .int .i64 (t : Int), .slice (some ⟨g1, 0, none⟩) N N, .slice (some ⟨g2, 0, none⟩) N N] 33)) x3.now.heap.size 33 [.int .i64 (N : Int), .slice A E.length c, .int .i64 (s : Int), .int .i64 (t : Int), .slice (some ⟨g1, 0, none⟩) N N, .slice (some ⟨g2, 0, none⟩) N N] := Arr.make _ _ _
  have a4 : Arr (x3.now.alloc (.cells #[.int .i64 (N : Int), .slice A E.length c, .int .i64 (s : Int), .int .i64 (t : Int), .slice (some ⟨g1, 0, none⟩) N N, .slice (some ⟨g2, 0, none⟩) N N] 33)) w.heap.size 24 [.int .i64 (N : Int), .slice A E.length c] := (Arr.make w _ _).grow (show Grows (w.alloc (.cells #[.int .i64 (N : Int), .slice A E.length c] 24)) _ from GG)
  have HD5 := hide (HDG.out.grow hg2)
  have HS1 := hide (HR1.out.grows hg3)
  have HS2 := hide (HR2.out.grows hg3)
  have HOLn := hide (HOLL.out _ HOL.out)
  have HNODES := hide (HTI.out _ HOL.out)
  have K3' := hide (fun (W : World) (hd : DgAt W b N s t E T F ol) => K3.out b ol W hd HOLn.out)
  rw [HNODES.out] at K3'
  clear HDG HR1 HR2 CX CY CL hg2 hg3 HOLL HTI HOL K3 HOLn HNODES
  generalize (x3.now.alloc (.cells #[.int .i64 (N : Int), .slice A E.length c, .int .i64 (s : Int), .int .i64 (t : Int), .slice (some ⟨g1, 0, none⟩) N N, .slice (some ⟨g2, 0, none⟩) N N] 33)) = W5 at *
  generalize x3.now.heap.size = b11 at *
  generalize w.heap.size = b4 at *
  clear x1 x2 x3
  obtain ⟨y5, rfl⟩ := hgw.later
  have t0 := a11.mine 0 rfl
  have t1 := a11.mine 1 rfl
  have t2 := a11.mine 2 rfl
  have t3 := a11.mine 3 rfl
  have t4 := a11.mine 4 rfl
  have t5 := a11.mine 5 rfl
  go_wp2_with fail
  go_loopw [15, 13] (fun i u wr => ∃ k : Nat, k ≤ E.length ∧ i = .int .i64 (k : Int) ∧ ∃ y : Later y5.now, wr = y.now ∧ ∃ A1 c1 s1, u = .slice A1 s1 c1 ∧ Hid (s1 = (fltL p k).length) ∧ Own y.now y5.now.heap.size 3 1 A1 s1 c1 ((fltL p k).map (.int .i64))) (fun i _ _ => E.length - (Go.RowKit.intOf i).toNat)
  case atStart => exact ⟨0, by omega, by go_num, ⟨_, Grows.refl _⟩, rfl, none, 0, 0, rfl, rfl, Own.nil _ _ _ _⟩
  case round =>
    obtain ⟨k, hk, rfl, y, rfl, B1, e1, s1, rfl, HQ1, hown⟩ := hrel
    have HO := hide hown
    clear hown
    by_cases hlt : k < E.length
    · have hs1 : s1 ≤ 1000000 := by have := HQ1.out; have := fltL_len p k; omega
      have R1k := hide (fun (W : World) (g : Grows y5.now W) => R1.out k hlt g1 g2 W (y5.grows.trans g) (HS1.out.grows g) (HS2.out.grows g))
      cases hd : p k with
      | true =>
        have HNX := hide (fltL_yes hd)
        rw [hd] at R1k
        clear hd
        go_wp2_with (first
          | (go_at_call 10; refine (R1k.out _ (y.grows.trans GG)).mono ?_; rintro e w' ⟨rfl, hg⟩; obtain ⟨y2, rfl⟩ := hg.later; clear hg)
          | (at_builtin; refine wp_app1M elemInt rfl _ _ rfl y5.now GG s1 e1 B1 _ rfl (HO.out.grows GG) _ _ _ rfl inferInstance rfl (by omega) ?_; intro A6 c6 y6 hown6 hgr6; have HO6 := hide hown6; clear hown6 hgr6))
        go_roundw
        case measure => simp [Go.RowKit.intOf]; omega
        case rel => exact ⟨k + 1, by omega, by go_num, y6, rfl, A6, c6, s1 + 1, rfl, by show s1 + 1 = _; rw [HNX.out, List.length_append, ← HQ1.out]; rfl, by rw [HNX.out, List.map_append]; exact HO6.out⟩
      | false =>
        have HNX := hide (fltL_no hd)
        rw [hd] at R1k
        clear hd
        go_wp2_with (go_at_call 10; refine (R1k.out _ (y.grows.trans GG)).mono ?_; rintro e w' ⟨rfl, hg⟩; obtain ⟨y2, rfl⟩ := hg.later; clear hg)
        obtain ⟨y6, hy6⟩ := (y.grows.trans (show Grows y.now y2.now from GG)).later
        refine ⟨⟨k + 1, by omega, by go_num, y6, hy6, B1, e1, s1, rfl, by show s1 = _; rw [HNX.out]; exact HQ1.out, ?_⟩, by simp [Go.RowKit.intOf]; omega⟩
        rw [← hy6, HNX.out]
        exact HO.out.grows (show Grows y.now y2.now from GG)
    · obtain rfl : E.length = k := by omega
      have HE1 := hide HO.out.rd
      rw [HQ1.out] at HE1
      have hQ1 := HQ1.out
      subst hQ1
      clear HO HQ1
      go_wp2_with fail
      have HL1 := hide (show (fltL p E.length).length ≤ 1000000 from by have := HLE.out; omega)
      have HL3 := hide (show (fltL q E.length).length ≤ 1000000 from by have := HLB.out; omega)
      have HL2 := hide (show (fltL (fun k => thB N T F t (k : Int)) N).length ≤ 1000000 from by have := HLN.out; omega)
      clear HLE HLB HLN
      generalize fltL p E.length = L1 at *
      generalize fltL q E.length = L3 at *
      have hyw : Grows y5.now y.now := y.grows
      go_loopw [16, 14] (fun i u wr => ∃ k : Nat, k ≤ N ∧ i = .int .i64 (k : Int) ∧ ∃ z : Later y.now, wr = z.now ∧ ∃ A1 c1 s1, u = .slice A1 s1 c1 ∧ Hid (s1 = (fltL (fun k => thB N T F t (k : Int)) k).length) ∧ Own z.now y.now.heap.size 3 1 A1 s1 c1 ((fltL (fun k => thB N T F t (k : Int)) k).map (.int .i64))) (fun i _ _ => N - (Go.RowKit.intOf i).toNat)
      case atStart => exact ⟨0, by omega, by go_num, ⟨_, Grows.refl _⟩, rfl, none, 0, 0, rfl, rfl, Own.nil _ _ _ _⟩
      case round =>
        obtain ⟨k, hk, rfl, z, rfl, B2, e2, s2, rfl, HQ2, hown⟩ := hrel
        have HO := hide hown
        clear hown
        by_cases hlt : k < N
        · have hs1 : s2 ≤ 1000000 := by have := HQ2.out; have := fltL_len (fun k => thB N T F t (k : Int)) k; omega
          have R2k := hide (fun (W : World) (g : Grows y5.now W) => R2.out (k : Int) g1 g2 W (HS1.out.grows g) (HS2.out.grows g))
          cases hd : thB N T F t (k : Int) with
          | true =>
            have HNX := hide (fltL_yes (p := fun k => thB N T F t (k : Int)) hd)
            rw [hd] at R2k
            clear hd
            go_wp2_with (first
              | (go_at_call 11; refine (R2k.out _ (y.grows.trans (z.grows.trans GG))).mono ?_; rintro e w' ⟨rfl, hg⟩; obtain ⟨z2, rfl⟩ := hg.later; clear hg)
              | (at_builtin; refine wp_app1M elemInt rfl _ _ rfl y.now GG s2 e2 B2 _ rfl (HO.out.grows GG) _ _ _ rfl inferInstance rfl (by omega) ?_; intro A6 c6 z6 hown6 hgr6; have HO6 := hide hown6; clear hown6 hgr6))
            go_roundw
            case measure => simp [Go.RowKit.intOf]; omega
            case rel => exact ⟨k + 1, by omega, by go_num, z6, rfl, A6, c6, s2 + 1, rfl, by show s2 + 1 = _; rw [HNX.out, List.length_append, ← HQ2.out]; rfl, by rw [HNX.out, List.map_append]; exact HO6.out⟩
          | false =>
            have HNX := hide (fltL_no (p := fun k => thB N T F t (k : Int)) hd)
            rw [hd] at R2k
            clear hd
            go_wp2_with (go_at_call 11; refine (R2k.out _ (y.grows.trans (z.grows.trans GG))).mono ?_; rintro e w' ⟨rfl, hg⟩; obtain ⟨z2, rfl⟩ := hg.later; clear hg)
            obtain ⟨z6, hz6⟩ := (z.grows.trans (show Grows z.now z2.now from GG)).later
            refine ⟨⟨k + 1, by omega, by go_num, z6, hz6, B2, e2, s2, rfl, by show s2 = _; rw [HNX.out]; exact HQ2.out, ?_⟩, by simp [Go.RowKit.intOf]; omega⟩
            rw [← hz6, HNX.out]
            exact HO.out.grows (show Grows z.now z2.now from GG)
        · obtain rfl : N = k := by omega
          have HE2 := hide HO.out.rd
          rw [HQ2.out] at HE2
          have hQ2 := HQ2.out
          subst hQ2
          clear HO HQ2
          have HE1' := hide (HE1.out.grows z.grows)
          have hyz : Grows y5.now z.now := y.grows.trans z.grows
          have D9 := hide (HD5.out.grow hyz)
          have S91 := hide (HS1.out.grows hyz)
          have S92 := hide (HS2.out.grows hyz)
          have a119 := a11.grow hyz
          have a49 := a4.grow hyz
          have hgz := y5.grows.trans hyz
          obtain ⟨_, bT, oT, e9, hcT⟩ := S91.out.wvH (by omega)
          injection e9 with e9
          injection e9 with e9 e8
          subst e9 e8
          have kT := hcT t ht
          rw [Nat.zero_add] at kT
          generalize fltL (fun k => thB N T F t (k : Int)) N = L2 at *
          generalize hTB : thB N T F t v = tb at *
          have R2v := hide (fun (W : World) (g : Grows z.now W) => R2.out v g1 g2 W (S91.out.grows g) (S92.out.grows g))
          have R3v := hide (fun (W : World) (g : Grows z.now W) => R3.out g1 g2 W (hgz.trans g) (S91.out.grows g) (S92.out.grows g))
          have K1v := hide (fun (W : World) (g : Grows z.now W) => K1.out b ol W (D9.out.grow g))
          have K2v := hide (fun (W : World) (g : Grows z.now W) => K2.out b ol W (D9.out.grow g))
          have K3v := hide (fun (W : World) (g : Grows z.now W) => K3'.out W (D9.out.grow g))
          have K4v := hide (fun (W : World) (g : Grows z.now W) => K4.out b ol W (D9.out.grow g))
          have K5v := hide (fun (W : World) (g : Grows z.now W) => K5.out b ol W (D9.out.grow g))
          rw [hTB] at R2v
          clear hTB hcT K1 K2 K3' K4 K5 R1 R2 R3 HD5 HS1 HS2 HE1 a11 a4 hyz hyw D9 t0 t1 t2 t3 t4 t5
          generalize z.now = W9 at *
          obtain ⟨y9, rfl⟩ := hgz.later
          obtain ⟨tt, htt⟩ : ∃ q : Int, (gn T t : Int) = q := ⟨_, rfl⟩
          rw [htt] at kT K1v
          clear htt
          have h1 : (tt == tt) = true := beq_self_eq_true tt
          have h2 : (tb == tb) = true := by cases tb <;> rfl
          go_upto_region 20 with fail
          refine wp_region_gen (by kernel_rfl) (by kernel_rfl) ?_
          (repeat' (first | (refine gLex_val0 rfl (by kernel_rfl) (fun K hK => ?_); (go_simp; (try (simp only [↓IntWalk.iteOmega]; try go_simp)); (try simp (disch := omega) only [IntWalk.i64_in]); (try simp (disch := omega) only [IntWalk.u64_in]); first | (refine hK _ ?_; clear hK K) | (apply Exists.intro; refine ⟨fun x => ?_, hK _ ?_⟩; (first | (go_at_call 12; exact K1v.out _ GG)); clear hK K))) | (refine gLex_undef rfl rfl rfl (by kernel_rfl) (fun K hK => ?_); go_simp; refine hK _ ?_; clear hK K) | (refine gLex_ask rfl rfl rfl ?_; first | (apply gAsk_yes; kernel_rfl; intro K hK; (go_simp; (try (simp only [↓IntWalk.iteOmega]; try go_simp)); (try simp (disch := omega) only [IntWalk.i64_in]); (try simp (disch := omega) only [IntWalk.u64_in]); first | (refine hK _ ?_; clear hK K) | (apply Exists.intro; refine ⟨fun x => ?_, hK _ ?_⟩; (first | (go_at_call 12; exact K1v.out _ GG)); clear hK K))) | ((first | apply gAsk_no1 | apply gAsk_no2); kernel_rfl; intro K hK; simp [go_sem]; refine hK _ ?_; clear hK K))))
          refine gLex_propG (by kernel_rfl) (by kernel_rfl) rfl (by simp) (IRow L1) (IRow.lasts _) (fun y => by
            go_simp
            refine (K2v.out _ GG).mono ?_
            rintro e w' ⟨A', c', rfl, ha, hg⟩
            exact ⟨_, rfl, hg, A', c', rfl, ha⟩) ?_
          (repeat' (first | (refine gLex_val0 rfl (by kernel_rfl) (fun K hK => ?_); (go_simp; (try (simp only [↓IntWalk.iteOmega]; try go_simp)); (try simp (disch := omega) only [IntWalk.i64_in]); (try simp (disch := omega) only [IntWalk.u64_in]); first | (refine hK _ ?_; clear hK K) | (apply Exists.intro; refine ⟨fun x => ?_, hK _ ?_⟩; (first | fail); clear hK K))) | (refine gLex_undef rfl rfl rfl (by kernel_rfl) (fun K hK => ?_); go_simp; refine hK _ ?_; clear hK K) | (refine gLex_ask rfl rfl rfl ?_; first | (apply gAsk_yes; kernel_rfl; intro K hK; (go_simp; (try (simp only [↓IntWalk.iteOmega]; try go_simp)); (try simp (disch := omega) only [IntWalk.i64_in]); (try simp (disch := omega) only [IntWalk.u64_in]); first | (refine hK _ ?_; clear hK K) | (apply Exists.intro; refine ⟨fun x => ?_, hK _ ?_⟩; (first | fail); clear hK K))) | ((first | apply gAsk_no1 | apply gAsk_no2); kernel_rfl; intro K hK; simp [go_sem]; refine hK _ ?_; clear hK K))))
          refine gLex_depV (t0 := 98) (by kernel_rfl) (by kernel_rfl) rfl (by simp) (.bool true) (fun y u1 hu1 => by
            obtain ⟨C1, d1, rfl, k1⟩ := hu1
            have CS := hide (r1Same C1 L1.length d1 L1 B1 L1.length e1 L1 _ k1 HL1.out (HE1'.out.grows y.grows) HL1.out)
            rw [decide_eq_true rfl] at CS
            go_simp
            exact CS.out) ?_
          simp only [Act.put, List.setIfInBounds_toArray, List.set_cons_zero, List.set_cons_succ]
          (repeat' (first | (refine gLex_val0 rfl (by kernel_rfl) (fun K hK => ?_); (go_simp; (try (simp only [↓IntWalk.iteOmega]; try go_simp)); (try simp (disch := omega) only [IntWalk.i64_in]); (try simp (disch := omega) only [IntWalk.u64_in]); first | (refine hK _ ?_; clear hK K) | (apply Exists.intro; refine ⟨fun x => ?_, hK _ ?_⟩; (first | fail); clear hK K))) | (refine gLex_undef rfl rfl rfl (by kernel_rfl) (fun K hK => ?_); go_simp; refine hK _ ?_; clear hK K) | (refine gLex_ask rfl rfl rfl ?_; first | (apply gAsk_yes; kernel_rfl; intro K hK; (go_simp; (try (simp only [↓IntWalk.iteOmega]; try go_simp)); (try simp (disch := omega) only [IntWalk.i64_in]); (try simp (disch := omega) only [IntWalk.u64_in]); first | (refine hK _ ?_; clear hK K) | (apply Exists.intro; refine ⟨fun x => ?_, hK _ ?_⟩; (first | fail); clear hK K))) | ((first | apply gAsk_no1 | apply gAsk_no2); kernel_rfl; intro K hK; simp [go_sem]; refine hK _ ?_; clear hK K))))
          refine gLex_propG (by kernel_rfl) (by kernel_rfl) rfl (by simp) (IRow L2) (IRow.lasts _) (fun y => by
            go_simp
            refine (K3v.out _ GG).mono ?_
            rintro e w' ⟨A', c', rfl, ha, hg⟩
            exact ⟨_, rfl, hg, A', c', rfl, ha⟩) ?_
          (repeat' (first | (refine gLex_val0 rfl (by kernel_rfl) (fun K hK => ?_); (go_simp; (try (simp only [↓IntWalk.iteOmega]; try go_simp)); (try simp (disch := omega) only [IntWalk.i64_in]); (try simp (disch := omega) only [IntWalk.u64_in]); first | (refine hK _ ?_; clear hK K) | (apply Exists.intro; refine ⟨fun x => ?_, hK _ ?_⟩; (first | fail); clear hK K))) | (refine gLex_undef rfl rfl rfl (by kernel_rfl) (fun K hK => ?_); go_simp; refine hK _ ?_; clear hK K) | (refine gLex_ask rfl rfl rfl ?_; first | (apply gAsk_yes; kernel_rfl; intro K hK; (go_simp; (try (simp only [↓IntWalk.iteOmega]; try go_simp)); (try simp (disch := omega) only [IntWalk.i64_in]); (try simp (disch := omega) only [IntWalk.u64_in]); first | (refine hK _ ?_; clear hK K) | (apply Exists.intro; refine ⟨fun x => ?_, hK _ ?_⟩; (first | fail); clear hK K))) | ((first | apply gAsk_no1 | apply gAsk_no2); kernel_rfl; intro K hK; simp [go_sem]; refine hK _ ?_; clear hK K))))
          refine gLex_depV (t0 := 104) (by kernel_rfl) (by kernel_rfl) rfl (by simp) (.bool true) (fun y u1 hu1 => by
            obtain ⟨C1, d1, rfl, k1⟩ := hu1
            have CS := hide (r1Same C1 L2.length d1 L2 B2 L2.length e2 L2 _ k1 HL2.out (HE2.out.grows y.grows) HL2.out)
            rw [decide_eq_true rfl] at CS
            go_simp
            exact CS.out) ?_
          simp only [Act.put, List.setIfInBounds_toArray, List.set_cons_zero, List.set_cons_succ]
          (repeat' (first | (refine gLex_val0 rfl (by kernel_rfl) (fun K hK => ?_); (go_simp; (try (simp only [↓IntWalk.iteOmega]; try go_simp)); (try simp (disch := omega) only [IntWalk.i64_in]); (try simp (disch := omega) only [IntWalk.u64_in]); first | (refine hK _ ?_; clear hK K) | (apply Exists.intro; refine ⟨fun x => ?_, hK _ ?_⟩; (first | (go_at_call 16; exact K4v.out _ GG) | (go_at_call 11; exact R2v.out _ GG)); clear hK K))) | (refine gLex_undef rfl rfl rfl (by kernel_rfl) (fun K hK => ?_); go_simp; refine hK _ ?_; clear hK K) | (refine gLex_ask rfl rfl rfl ?_; first | (apply gAsk_yes; kernel_rfl; intro K hK; (go_simp; (try (simp only [↓IntWalk.iteOmega]; try go_simp)); (try simp (disch := omega) only [IntWalk.i64_in]); (try simp (disch := omega) only [IntWalk.u64_in]); first | (refine hK _ ?_; clear hK K) | (apply Exists.intro; refine ⟨fun x => ?_, hK _ ?_⟩; (first | (go_at_call 16; exact K4v.out _ GG) | (go_at_call 11; exact R2v.out _ GG)); clear hK K))) | ((first | apply gAsk_no1 | apply gAsk_no2); kernel_rfl; intro K hK; simp [go_sem]; refine hK _ ?_; clear hK K))))
          refine gLex_propG (by kernel_rfl) (by kernel_rfl) rfl (by simp) (IRow L3) (IRow.lasts _) (fun y => by
            go_simp
            refine (K5v.out _ GG).mono ?_
            rintro e w' ⟨A', c', rfl, ha, hg⟩
            exact ⟨_, rfl, hg, A', c', rfl, ha⟩) ?_
          (repeat' (first | (refine gLex_val0 rfl (by kernel_rfl) (fun K hK => ?_); (go_simp; (try (simp only [↓IntWalk.iteOmega]; try go_simp)); (try simp (disch := omega) only [IntWalk.i64_in]); (try simp (disch := omega) only [IntWalk.u64_in]); first | (refine hK _ ?_; clear hK K) | (apply Exists.intro; refine ⟨fun x => ?_, hK _ ?_⟩; (first | fail); clear hK K))) | (refine gLex_undef rfl rfl rfl (by kernel_rfl) (fun K hK => ?_); go_simp; refine hK _ ?_; clear hK K) | (refine gLex_ask rfl rfl rfl ?_; first | (apply gAsk_yes; kernel_rfl; intro K hK; (go_simp; (try (simp only [↓IntWalk.iteOmega]; try go_simp)); (try simp (disch := omega) only [IntWalk.i64_in]); (try simp (disch := omega) only [IntWalk.u64_in]); first | (refine hK _ ?_; clear hK K) | (apply Exists.intro; refine ⟨fun x => ?_, hK _ ?_⟩; (first | fail); clear hK K))) | ((first | apply gAsk_no1 | apply gAsk_no2); kernel_rfl; intro K hK; simp [go_sem]; refine hK _ ?_; clear hK K))))
          refine gLex_propG (by kernel_rfl) (by kernel_rfl) rfl (by simp) (IRow L3) (IRow.lasts _) (fun y => by
            go_simp
            refine (R3v.out _ GG).mono ?_
            rintro e w' ⟨A', c', rfl, ha, hg⟩
            exact ⟨_, rfl, hg, A', c', rfl, ha⟩) ?_
          refine gLex_depV2 (t1 := 119) (t2 := 121) (by kernel_rfl) (by kernel_rfl) rfl rfl (by simp) (by simp) (by decide) (.bool true) (fun y u1 u2 h1 h2 => by
            obtain ⟨C1, d1, rfl, k1⟩ := h1
            obtain ⟨C2, d2, rfl, k2⟩ := h2
            have CS := hide (r1Same C1 L3.length d1 L3 C2 L3.length d2 L3 _ k1 HL3.out k2 HL3.out)
            rw [decide_eq_true rfl] at CS
            go_simp
            exact CS.out) ?_
          simp only [Act.put, List.setIfInBounds_toArray, List.set_cons_zero, List.set_cons_succ]
          (repeat' (first | (refine gLex_val0 rfl (by kernel_rfl) (fun K hK => ?_); (go_simp; (try (simp only [↓IntWalk.iteOmega]; try go_simp)); (try simp (disch := omega) only [IntWalk.i64_in]); (try simp (disch := omega) only [IntWalk.u64_in]); first | (refine hK _ ?_; clear hK K) | (apply Exists.intro; refine ⟨fun x => ?_, hK _ ?_⟩; (first | (go_at_call 7; exact CA.out _)); clear hK K))) | (refine gLex_undef rfl rfl rfl (by kernel_rfl) (fun K hK => ?_); go_simp; refine hK _ ?_; clear hK K) | (refine gLex_ask rfl rfl rfl ?_; first | (apply gAsk_yes; kernel_rfl; intro K hK; (go_simp; (try (simp only [↓IntWalk.iteOmega]; try go_simp)); (try simp (disch := omega) only [IntWalk.i64_in]); (try simp (disch := omega) only [IntWalk.u64_in]); first | (refine hK _ ?_; clear hK K) | (apply Exists.intro; refine ⟨fun x => ?_, hK _ ?_⟩; (first | (go_at_call 7; exact CA.out _)); clear hK K))) | ((first | apply gAsk_no1 | apply gAsk_no2); kernel_rfl; intro K hK; simp [go_sem]; refine hK _ ?_; clear hK K))))
          refine gLex_endB (fun x8 => ?_)
          refine AtB.pop rfl (by simp [Act.put]) (fun z1 _ => ?_)
          refine AtB.pop rfl (by simp [Act.put]) (fun z2 _ => ?_)
          refine AtB.pop rfl (by simp [Act.put]) (fun z3 _ => ?_)
          refine AtB.pop rfl (by simp [Act.put]) (fun z4 _ => ?_)
          refine AtB.base ?_
          simp only [Act.put, List.setIfInBounds_toArray, List.set_cons_zero, List.set_cons_succ]
          go_wp2_with fail
          go_ret
          exact ⟨rfl, hgz.trans GG⟩
set_option maxRecDepth 40000 in
set_option maxHeartbeats 8000000 in
theorem dagLooksOut (N s t v : Int) (A : Option Addr) (n c : Nat) (l : Bool) (w : World) (hc : l = false ∨ (30 < N ∧ N ≤ 4096) ∨ 60 < n)
    (CL : Hid (∀ W, Calls Tryz.prog 6 #[.agg #[.int .i64 N, .slice A n c]] W fun e w' => e = .returned (.bool l) ∧ Grows W w')) :
    Calls Tryz.prog 3 #[.agg #[.int .i64 N, .slice A n c], .int .i64 s, .int .i64 t, .int .i64 v] w fun e w' => e = .returned (.bool true) ∧ Grows w w' := by
  have CA := hide (fun (W : World) => alive16 W)
  cases l with
  | false =>
    clear hc
    go_enter Tryz.func3, Tryz.ntmps3
    go_wp2_with (first
      | (go_at_call 6; refine (CL.out _).mono ?_; rintro e w' ⟨rfl, hg⟩; obtain ⟨x1, rfl⟩ := hg.later; clear hg)
      | (go_at_call 7; refine (CA.out _).mono ?_; rintro e w' ⟨rfl, hg⟩; obtain ⟨x4, rfl⟩ := hg.later; clear hg))
    go_ret
    exact ⟨rfl, GG⟩
  | true =>
    replace hc := hc.resolve_left (fun h => by cases h)
    by_cases h30 : 30 < N
    · by_cases h40 : N ≤ 4096
      · clear hc
        go_enter Tryz.func3, Tryz.ntmps3
        go_wp2_with (first
          | (go_at_call 6; refine (CL.out _).mono ?_; rintro e w' ⟨rfl, hg⟩; obtain ⟨x1, rfl⟩ := hg.later; clear hg)
          | (go_at_call 7; refine (CA.out _).mono ?_; rintro e w' ⟨rfl, hg⟩; obtain ⟨x4, rfl⟩ := hg.later; clear hg))
        go_ret
        exact ⟨rfl, GG⟩
      · have hn : (60 : Int) < (n : Int) := by omega
        clear hc
        go_enter Tryz.func3, Tryz.ntmps3
        go_wp2_with (first
          | (go_at_call 6; refine (CL.out _).mono ?_; rintro e w' ⟨rfl, hg⟩; obtain ⟨x1, rfl⟩ := hg.later; clear hg)
          | (go_at_call 7; refine (CA.out _).mono ?_; rintro e w' ⟨rfl, hg⟩; obtain ⟨x4, rfl⟩ := hg.later; clear hg))
        go_ret
        exact ⟨rfl, GG⟩
    · have hn : (60 : Int) < (n : Int) := by omega
      clear hc
      go_enter Tryz.func3, Tryz.ntmps3
      go_wp2_with (first
        | (go_at_call 6; refine (CL.out _).mono ?_; rintro e w' ⟨rfl, hg⟩; obtain ⟨x1, rfl⟩ := hg.later; clear hg)
        | (go_at_call 7; refine (CA.out _).mono ?_; rintro e w' ⟨rfl, hg⟩; obtain ⟨x4, rfl⟩ := hg.later; clear hg))
      go_ret
      exact ⟨rfl, GG⟩
theorem dagLooksW (N : Int) (A : Option Addr) (n c : Nat) (E : List Edg) (s t v : Int) (w : World) (_ : I64 N) (_ : n ≤ c) (h : Rd w A 3 n (esCells E)) (_ : ∀ k, k < n → edgOk (ge E k)) (_ : I64 s) (_ : I64 t) (_ : I64 v) :
    Calls Tryz.prog 3 #[.agg #[.int .i64 N, .slice A n c], .int .i64 s, .int .i64 t, .int .i64 v] w fun e w' => e = .returned (.bool true) ∧ Grows w w' := by
  have CL := hide (fun (W : World) => lLight N A n c W)
  have hel := h.elen
  subst hel
  by_cases hc : lightG N E.length = false ∨ (30 < N ∧ N ≤ 4096) ∨ 60 < E.length
  · exact dagLooksOut N s t v A E.length c _ w hc CL
  · have hl : lightG N E.length = true := by
      cases hq : lightG N E.length with
      | true => rfl
      | false => exact absurd (.inl hq) hc
    rw [hl] at CL
    have hn : E.length ≤ 60 := by omega
    have hN : N ≤ 30 ∨ 4096 < N := by omega
    clear hc hl
    by_cases hr : rightF N E = 0
    · obtain ⟨r1, r2, r3, r4, r5⟩ := right_in hr
      by_cases hno : (nodeB N s && nodeB N t) = true
      · rw [Bool.and_eq_true] at hno
        obtain ⟨n1, n2⟩ := hno
        unfold nodeB at n1 n2
        rw [decide_eq_true_eq] at n1 n2
        obtain ⟨NN, rfl⟩ : ∃ k : Nat, N = (k : Int) := ⟨N.toNat, by omega⟩
        obtain ⟨sN, rfl⟩ : ∃ k : Nat, s = (k : Int) := ⟨s.toNat, by omega⟩
        obtain ⟨tN, rfl⟩ : ∃ k : Nat, t = (k : Int) := ⟨t.toNat, by omega⟩
        have hs : sN < NN := by omega
        have ht : tN < NN := by omega
        by_cases hf : gn (DsF NN E sN) tN < farV
        · exact dagLooksYes NN sN tN v A c E w h hr hs ht hf hn (by omega) CL
        · have hf2 : gn (DsF NN E sN) tN = farV := by have := DsF_le hr hs tN; omega
          refine dagLooksNo NN sN tN v A E.length c 9 (by omega) w hn hN CL (hide fun W g => dagNewNo NN sN tN A c E W (h.grows g) hr hs ht hf2) (hide fun W g => (r16New NN sN tN A c E W (h.grows g) hr hs ht).mono (fun e w' ⟨ho, hg⟩ => ?_))
          rcases ho with ⟨h1, _⟩ | ⟨_, h2⟩
          · exact absurd h1 hf
          · exact ⟨h2, hg⟩
      · have hno2 : (nodeB N s && nodeB N t) = false := by
          cases hq : (nodeB N s && nodeB N t) with
          | true => exact absurd hq hno
          | false => rfl
        exact dagLooksNo N s t v A E.length c 7 (by omega) w hn hN CL (hide fun W g => dagNewNode N s t A E.length c E W (h.grows g) (by omega) hr hno2) (hide fun W g => r16NewNode N s t A E.length c E W (h.grows g) (by omega) hr hno2)
    · exact dagLooksNo N s t v A E.length c 1 (by omega) w hn hN CL (hide fun W g => dagNewBad N s t A E.length c E W (h.grows g) (by omega) hr) (hide fun W g => r16NewBad N s t A E.length c E W (h.grows g) (by omega) hr)
end Go.Proofs.YtomednfddpggaaaGreat

/- The law DagLooks: for every input it returns true, and each argument reads as before. No condition. -/
namespace Go.Proofs.YtomednfddpggaaaGreat.lawDagLooks
open Go Go.ChangeShapes Go.WideShapes Go.ChangeAt Go.RowKit Go.Proofs.YtomednfddpggaaaGreat

theorem own : ownKnob Tryz.prog.godebug = none := by kernel_rfl
theorem laidOut : laidOutB Tryz.prog = true := by kernel_rfl

set_option maxRecDepth 100000 in
theorem lifted (os : Os) (started : os.Started) (H : Type) (enc : TypeId × Value → H) :
    ReturnsInHanded {} Tryz.checked os 3 .any (Rows.dagLooksSpec.pre6 enc Tryz.prog Tryz.f3 Rows.dagLooksRow.domain false) (Rows.dagLooksSpec.post enc Tryz.prog Tryz.f3 false true false false) := by
  refine returnsInHanded_of_change (C := Tryz.checked) own started (by kernel_rfl) Tryz.func3
    (ChangeSpec.witness6 (enc := enc) (C := Tryz.checked) false ⟨#[], #[.agg #[.int .i64 0, .slice none 0 0], .int .i64 0, .int .i64 0, .int .i64 0], []⟩ 8 (by kernel_rfl) (by kernel_rfl) (by kernel_rfl) (by kernel_rfl)) ?_
  intro W base args ds gs before hval0 hW hcnd _
  have hval : ∀ (j : Nat) t v, Tryz.f3.params[j]? = some t → args[j]? = some v → Value.okWide Tryz.prog W .any base t v := hval0
  have hW' := hW
  obtain ⟨p, q, hA0, hV, rfl, hfz, hnd⟩ := hW
  have hA : DataW.TrodAll enc Tryz.prog W 0 (fun _ => true) true Tryz.f3.params.toList args.toList ds p := hA0
  rw [Tryz.params3] at hA hval
  obtain ⟨v0, vs0, d0, ds0, p0, q0, hargs, rfl, rfl, h0, r0⟩ := trodAll_cons hA
  obtain ⟨v1, vs1, d1, ds1, p1, q1, rfl, rfl, rfl, h1, r1⟩ := trodAll_cons r0
  obtain ⟨v2, vs2, d2, ds2, p2, q2, rfl, rfl, rfl, h2, r2⟩ := trodAll_cons r1
  obtain ⟨v3, vs3, d3, ds3, p3, q3, rfl, rfl, rfl, h3, r3⟩ := trodAll_cons r2
  obtain ⟨rfl, rfl, rfl⟩ := trodAll_nil r3
  obtain rfl : args = #[v0, v1, v2, v3] := by cases args; simp_all
  obtain ⟨rfl, rfl⟩ := trodVars_none hV
  have k0 := h0
  have lt0 : ∀ x ∈ p0, x.block < W.heap.size := by obtain ⟨m, hm⟩ := k0; exact DataW.trod_lt m _ _ _ hm
  obtain ⟨a0, A0, n0, c0, z0, rfl, x0, l0, w0, u0⟩ := open_graph Tryz.underlying24 Tryz.underlying3 Tryz.underlying22 Tryz.underlying59 Tryz.underlying3 Tryz.underlying3 Tryz.underlying38 ⟨rfl, rfl, rfl⟩ ⟨by kernel_rfl, by kernel_rfl, by kernel_rfl⟩ (by kernel_rfl) (by kernel_rfl) (by kernel_rfl) (hval 0 24 v0 rfl rfl) h0
  have k1 := h1
  have lt1 : ∀ x ∈ p1, x.block < W.heap.size := by obtain ⟨m, hm⟩ := k1; exact DataW.trod_lt m _ _ _ hm
  obtain ⟨a1, rfl, w1⟩ := open_i64 Tryz.underlying3 (hval 1 3 v1 rfl rfl) h1
  have k2 := h2
  have lt2 : ∀ x ∈ p2, x.block < W.heap.size := by obtain ⟨m, hm⟩ := k2; exact DataW.trod_lt m _ _ _ hm
  obtain ⟨a2, rfl, w2⟩ := open_i64 Tryz.underlying3 (hval 2 3 v2 rfl rfl) h2
  have k3 := h3
  have lt3 : ∀ x ∈ p3, x.block < W.heap.size := by obtain ⟨m, hm⟩ := k3; exact DataW.trod_lt m _ _ _ hm
  obtain ⟨a3, rfl, w3⟩ := open_i64 Tryz.underlying3 (hval 3 3 v3 rfl rfl) h3
  clear hA0 hval0
  refine (dagLooksW a0 A0 n0 c0 z0 a1 a2 a3 W x0 l0 w0 u0 w1 w2 w3).mono fun e W' ⟨he, bel⟩ => ?_
  subst he
  exact ⟨_, rfl, _, _, _, [], _, [], hW', trodAll_mk1 (shut_bool Tryz.underlying4 _), (trodAll_cons_mk (Below.trod laidOut (by kernel_rfl) (of_decide_eq_true (by kernel_rfl)) k0 bel lt0) (trodAll_cons_mk (Below.trod laidOut (by kernel_rfl) (of_decide_eq_true (by kernel_rfl)) k1 bel lt1) (trodAll_cons_mk (Below.trod laidOut (by kernel_rfl) (of_decide_eq_true (by kernel_rfl)) k2 bel lt2) (trodAll_cons_mk (Below.trod laidOut (by kernel_rfl) (of_decide_eq_true (by kernel_rfl)) k3 bel lt3) trodAll_mk0)))), rfl, Below.frame bel _, fun h => by cases h⟩

theorem over : Rows.dagLooksRow.holds Tryz.pinned (OpenSpec.ofChange Rows.dagLooksSpec) :=
  OpenClaim.holds_of_wide 3 Tryz.f3 rfl rfl rfl rfl rfl rfl rfl ⟨rfl, rfl, rfl, rfl, rfl⟩ rfl rfl rfl rfl rfl (by kernel_rfl) Tryz.func3 (by kernel_rfl)
    (of_decide_eq_true (by kernel_rfl)) (by unfold Func.isWrapper; first | (rw [if_pos (by decide +kernel)]; kernel_rfl) | (rw [if_neg (by decide +kernel)]; exact ⟨rfl, rfl⟩))
    (fun os started H enc _ => lifted os started H enc)

end Go.Proofs.YtomednfddpggaaaGreat.lawDagLooks
namespace Go.Proofs.YtomednfddpggaaaGreat
theorem dagLooks_proved : Rows.DagLooksSaid := lawDagLooks.over
#print axioms dagLooks_proved
end Go.Proofs.YtomednfddpggaaaGreat
