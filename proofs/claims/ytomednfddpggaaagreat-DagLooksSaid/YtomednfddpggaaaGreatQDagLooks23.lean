/- Contract: no Dag is made where there is no way. -/
import Derived.Test.YtomednfddpggaaaGreatQDagLooks20
import Derived.Test.YtomednfddpggaaaGreatQDagLooks17
import Derived.Test.YtomednfddpggaaaGreatQDagLooks16
import Derived.Test.YtomednfddpggaaaGreatQDagLooks22
/- Contract: no Dag is made where there is no way. -/
namespace Go.Proofs.YtomednfddpggaaaGreat
open Go Go.RowKit
attribute [local go_sem] Oper.semAt_some
set_option maxRecDepth 40000 in
set_option maxHeartbeats 8000000 in
theorem dagNewNo (N s t : Nat) (A : Option Addr) (c0 : Nat) (E : List Edg) (w : World) (h : Rd w A 3 E.length (esCells E)) (hr : rightF N E = 0) (hs : s < N) (ht : t < N) (hf : gn (DsF N E s) t = farV) :
    Calls Tryz.prog 8 #[.agg #[.int .i64 (N : Int), .slice A E.length c0], .int .i64 (s : Int), .int .i64 (t : Int)] w fun e w' =>
      e = .returned (.tuple #[.pointer none, .int .i64 9]) ∧ Grows w w' := by
  have C0 := hide (fun (W : World) (g : Grows w W) => by have := gRight N A E.length c0 E W (h.grows g) (by have := (right_in hr).2.2.1; omega); rw [hr] at this; exact this)
  have C1 := hide (fun (v : Nat) (hv : v < N) (W : World) => show Calls Tryz.prog 32 #[.agg #[.int .i64 (N : Int), .slice A E.length c0], .int .i64 (v : Int)] W fun e w' => e = .returned (.bool true) ∧ Grows W w' from by
    have := gNode N v (.slice A E.length c0) W
    rw [show nodeB (N : Int) (v : Int) = true from by simp [nodeB]; omega] at this
    exact this)
  have C3 := hide (fun (W : World) (g : Grows w W) => adjNew N A E.length c0 E W (h.grows g) (by have := (right_in hr).2.2.1; omega) hr)
  have C4 := hide (fun (W : World) (g : Grows w W) => djAllR N s A c0 E W (h.grows g) hr hs)
  have hTl : (DsF N E s).length = N := by unfold DsF refL; split <;> simp [cutL, rndK_len, dBeg, srchOf]
  clear h hr
  generalize DsF N E s = T at *
  go_enter Tryz.func8, Tryz.ntmps8
  go_upto_region 6 with (first
    | (go_at_call 31; refine (C0.out _ GG).mono ?_; rintro e w' ⟨rfl, hg⟩; obtain ⟨x0, rfl⟩ := hg.later; clear hg)
    | (go_at_call 32; refine (C1.out _ (by assumption) _).mono ?_; rintro e w' ⟨rfl, hg⟩; obtain ⟨x1, rfl⟩ := hg.later; clear hg))
  have a8 : Arr (x1.now.alloc (.cells #[.pointer none, .int .i64 (s : Int), .int .i64 (t : Int), .slice none 0 0, .slice none 0 0, .slice none 0 0] 65)) x1.now.heap.size 65 [.pointer none, .int .i64 (s : Int), .int .i64 (t : Int), .slice none 0 0, .slice none 0 0, .slice none 0 0] := Arr.make _ _ _
  have hg5 : Grows w (x1.now.alloc (.cells #[.pointer none, .int .i64 (s : Int), .int .i64 (t : Int), .slice none 0 0, .slice none 0 0, .slice none 0 0] 65)) := GG
  have hb8 : w.heap.size ≤ x1.now.heap.size := (show Grows w x1.now from GG).size
  have a3 : Arr (x1.now.alloc (.cells #[.pointer none, .int .i64 (s : Int), .int .i64 (t : Int), .slice none 0 0, .slice none 0 0, .slice none 0 0] 65)) w.heap.size 24 [.int .i64 (N : Int), .slice A E.length c0] := (Arr.make w _ _).grow (show Grows (w.alloc (.cells #[.int .i64 (N : Int), .slice A E.length c0] 24)) _ from GG)
  have hb38 : w.heap.size ≠ x1.now.heap.size := by
    have := (show Grows (w.alloc (.cells #[.int .i64 (N : Int), .slice A E.length c0] 24)) x1.now from GG).size
    simp at this
    omega
  generalize x1.now.alloc (.cells #[.pointer none, .int .i64 (s : Int), .int .i64 (t : Int), .slice none 0 0, .slice none 0 0, .slice none 0 0] 65) = W5 at *
  generalize x1.now.heap.size = b8 at *
  generalize hb3 : w.heap.size = b3 at *
  replace hb3 := hide hb3
  obtain ⟨y5, rfl⟩ := hg5.later
  have m0 := a8.mine 0 rfl
  clear C0 C1
  go_upto_region 7 with (go_at_call 33; refine (C3.out _ GG).mono ?_; rintro e w' ⟨ba, rfl, hA, hg⟩; obtain ⟨x2, rfl⟩ := hg.later; have HA := hide hA; clear hA hg)
  have HB := hide (show w.heap.size ≤ b8 from by rw [hb3.out]; exact hb8)
  have hg6 : Grows w (x2.now.setCell ⟨b8, 0, none⟩ (.pointer (some ⟨ba, 0, none⟩))) := (y5.grows.trans x2.grows).set (p := ⟨b8, 0, none⟩) HB.out _
  have a86 : Arr (x2.now.setCell ⟨b8, 0, none⟩ (.pointer (some ⟨ba, 0, none⟩))) b8 65 [.pointer (some ⟨ba, 0, none⟩), .int .i64 (s : Int), .int .i64 (t : Int), .slice none 0 0, .slice none 0 0, .slice none 0 0] := (a8.grow x2.grows).set 0 _
  have a36 : Arr (x2.now.setCell ⟨b8, 0, none⟩ (.pointer (some ⟨ba, 0, none⟩))) b3 24 [.int .i64 (N : Int), .slice A E.length c0] := (a3.grow x2.grows).other (p := ⟨b8, 0, none⟩) (Ne.symm hb38) _
  have HA6 : Hid (AdjAt (fun k => b8 < k ∧ k < x2.now.heap.size) (x2.now.setCell ⟨b8, 0, none⟩ (.pointer (some ⟨ba, 0, none⟩))) ba N E) := hide ((HA.out.mono (F' := fun k => b8 < k ∧ k < x2.now.heap.size) (fun k hk => ⟨Nat.lt_of_lt_of_le a8.lt hk.1, hk.2⟩)).put8 0 _)
  clear HA m0 a8 a3
  generalize x2.now.setCell ⟨b8, 0, none⟩ (.pointer (some ⟨ba, 0, none⟩)) = W6 at *
  generalize x2.now.heap.size = K at *
  clear hg5 x2
  obtain ⟨y6, rfl⟩ := hg6.later
  have m3 := a86.mine 3 rfl
  go_upto_region 8 with (go_at_call 34; refine (C4.out _ GG).mono ?_; rintro e w' ⟨g1, rfl, hrow, hg⟩; obtain ⟨x3, rfl⟩ := hg.later; have HR := hide hrow; clear hrow hg)
  have hg7 : Grows w (x3.now.setCell ⟨b8, 3, none⟩ (.slice (some ⟨g1, 0, none⟩) N N)) := (y6.grows.trans x3.grows).set (p := ⟨b8, 3, none⟩) HB.out _
  have a87 : Arr (x3.now.setCell ⟨b8, 3, none⟩ (.slice (some ⟨g1, 0, none⟩) N N)) b8 65 [.pointer (some ⟨ba, 0, none⟩), .int .i64 (s : Int), .int .i64 (t : Int), .slice (some ⟨g1, 0, none⟩) N N, .slice none 0 0, .slice none 0 0] := (a86.grow x3.grows).set 3 _
  have a37 : Arr (x3.now.setCell ⟨b8, 3, none⟩ (.slice (some ⟨g1, 0, none⟩) N N)) b3 24 [.int .i64 (N : Int), .slice A E.length c0] := (a36.grow x3.grows).other (p := ⟨b8, 3, none⟩) (Ne.symm hb38) _
  have HA7 := hide ((HA6.out.grows x3.grows).put8 3 (.slice (some ⟨g1, 0, none⟩) N N))
  have HR7 := hide (HR.out.rd.put8 (row_ne8 HR.out (a86.grow x3.grows)) 3 (.slice (some ⟨g1, 0, none⟩) N N))
  have HN7 := hide (fun (x4 : Later (x3.now.setCell ⟨b8, 3, none⟩ (.slice (some ⟨g1, 0, none⟩) N N))) => row_ne8 HR.out (a86.grow x3.grows))
  clear HA6 HR m3 a86 a36
  generalize x3.now.setCell ⟨b8, 3, none⟩ (.slice (some ⟨g1, 0, none⟩) N N) = W7 at *
  clear hg6 x3
  obtain ⟨y7, rfl⟩ := hg7.later
  have m4 := a87.mine 4 rfl
  obtain ⟨_, b1, o1, e1, hc1⟩ := HR7.out.wvH (by omega)
  injection e1 with e1
  injection e1 with e1 e2
  subst e1 e2
  have k1 := hc1 t ht
  rw [Nat.zero_add] at k1
  obtain ⟨tt, htt⟩ : ∃ q : Int, (gn T t : Int) = q := ⟨_, rfl⟩
  have hff : (4611686018427387904 : Int) ≤ tt := by unfold farV at hf; omega
  rw [htt] at k1
  clear hc1 htt hf
  have hgF := hg7
  go_wp2_with fail
  refine bodyPost_ret (v := .tuple #[.pointer none, .int .i64 9]) (by simp (maxDischargeDepth := 6) [results, Tryz.results8, go_sem, *]) rfl ⟨rfl, GG⟩
end Go.Proofs.YtomednfddpggaaaGreat

/- Contract: the nodes on shortest ways, by the program. -/
namespace Go.Proofs.YtomednfddpggaaaGreat
open Go Go.RowKit
attribute [local go_sem] Oper.semAt_some
theorem ints_one (E : List Int) : ∀ u ∈ E.map (Value.int .i64), u.oneCell' = true := by
  intro u hu
  obtain ⟨x, _, rfl⟩ := List.mem_map.1 hu
  rfl
set_option maxRecDepth 20000 in
set_option maxHeartbeats 2000000 in
theorem cloneZ (A : Option Addr) (n c : Nat) (E : List Int) (w : World) (h : Rd w A 1 n (E.map (.int .i64))) (hn : n ≤ 1000000) :
    Calls Tryz.prog 42 #[.slice A n c] w fun e w' => ∃ A' c', e = .returned (.slice A' n c') ∧ Own w' w.heap.size 3 1 A' n c' (E.map (.int .i64)) ∧ Grows w w' := by
  have hl : E.length = n := by simpa using h.len
  cases A with
  | none =>
    have hn0 : n = 0 := by
      rcases Nat.eq_zero_or_pos n with h0 | h0
      · exact h0
      · obtain ⟨_, _, e, _⟩ := h.2 h0 (by omega); cases e
    subst hn0
    have hE : E = [] := List.eq_nil_of_length_eq_zero hl
    subst hE
    clear h hl
    have hnil := fun (w : World) (a : Option Addr) (n c n' c' : Nat) => Lib.run_eql_slice_nil (P := Tryz.prog) w 36 3 a n c n' c' Tryz.underlying36
    go_enter Tryz.func42, Tryz.ntmps42
    go_wp2
    go_ret
    exact ⟨none, 0, rfl, Own.nil _ _ _ _, GG⟩
  | some ad =>
    have HR := hide h
    have HE1 := hide (ints_one E)
    clear h hl
    have hnil := fun (w : World) (a : Option Addr) (n c n' c' : Nat) => Lib.run_eql_slice_nil (P := Tryz.prog) w 36 3 a n c n' c' Tryz.underlying36
    generalize E.map (Value.int .i64) = xs at *
    go_enter Tryz.func42, Tryz.ntmps42
    go_wp2_with (at_builtin; refine wp_appAll elemInt rfl _ _ rfl w GG 0 0 _ [] rfl (Own.empty _ _ _ _ (Nat.le_refl _)) ad n c _ rfl (HR.out.grows GG) HE1.out (by omega) ?_; intro A3 c3 y3 hown3; have HO3 := hide hown3; clear hown3)
    go_ret
    exact ⟨A3, c3, by first | rfl | (simp; done) | (rw [Nat.zero_add]; rfl), by have := HO3.out; rwa [Nat.zero_add, List.nil_append] at this, GG⟩
def thL (N : Nat) (T F : List Nat) (t : Nat) (ol : List Int) : List Int := ol.filter fun v => !(!thB N T F t v)
set_option maxRecDepth 20000 in
set_option maxHeartbeats 4000000 in
theorem dagNodes (b N s t : Nat) (E : List Edg) (T F : List Nat) (ol : List Int) (w : World) (h : DgAt w b N s t E T F ol) (ht : t < N) (hT : ∀ v, gn T v ≤ farV) (hF : ∀ v, gn F v ≤ farV) (hol : ol.length ≤ 1000000) :
    Calls Tryz.prog 15 #[.pointer (some ⟨b, 0, none⟩)] w fun e w' => ∃ A' c', e = .returned (.slice A' (srtI (thL N T F t ol)).length c') ∧ Rd w' A' 1 (srtI (thL N T F t ol)).length ((srtI (thL N T F t ol)).map (.int .i64)) ∧ Grows w w' := by
  have HK := hide (fun args W => run_callGo (P := Tryz.prog) Tryz.func43 (by kernel_rfl) (by kernel_rfl) args W)
  obtain ⟨W1, hW1⟩ : ∃ W1, W1 = w.alloc (.cells #[.pointer (some ⟨b, 0, none⟩)] 27) := ⟨_, rfl⟩
  have hg1 : Grows w W1 := by rw [hW1]; exact (Grows.refl _).new _
  have a1 : Arr W1 w.heap.size 27 [.pointer (some ⟨b, 0, none⟩)] := by rw [hW1]; exact Arr.make _ _ _
  have CD := hide (fun (A1 : Option Addr) (c1 : Nat) (W : World) (hg : Grows W1 W) (ho : Own W W1.heap.size 3 1 A1 ol.length c1 (ol.map (.int .i64))) =>
    deleteFuncI W1 W A1 c1 ol 43 #[.pointer (some ⟨w.heap.size, 0, none⟩)] (fun v => !thB N T F t v) ho hg hol HK.out (fun W2 g2 e _ => dagNodes1 b w.heap.size N s t e E T F ol W2 (a1.grow g2) (h.grow (hg1.trans g2)) ht hT hF))
  have HL := hide (show (thL N T F t ol).length ≤ 1000000 from Nat.le_trans (List.length_filter_le _ _) hol)
  have HTL := hide (show (ol.filter fun x => !(!thB N T F t x)) = thL N T F t ol from rfl)
  rw [HTL.out] at CD
  clear HTL
  generalize thL N T F t ol = tl at *
  obtain ⟨ba, A1, c1, A2, c2, A3, c3, d1, _, _, _, h5⟩ := h
  have CC := hide (fun (W : World) (hg : Grows w W) => cloneZ A3 ol.length c3 ol W (h5.grows hg) hol)
  have CS := hide (fun (A : Option Addr) (c : Nat) (W : World) (ho : Own W W1.heap.size 3 1 A tl.length c (tl.map (.int .i64))) => sortOwnT W1.heap.size W A tl.length c tl ho HL.out)
  have HS := hide hg1.size
  have hle := srtI_len tl
  rw [hle]
  generalize srtI tl = sl at *
  clear hT hF HK h5 hg1 a1 hol HL hle
  go_enter Tryz.func15, Tryz.ntmps15
  go_upto_region 3 with fail
  rw [← hW1]
  have hg1 : Grows w W1 := by rw [hW1]; exact (Grows.refl _).new _
  have a1 : Arr W1 w.heap.size 27 [.pointer (some ⟨b, 0, none⟩)] := by rw [hW1]; exact Arr.make _ _ _
  have d1' := d1.grow hg1
  clear hW1
  go_wp2_with (first
    | (go_at_call 42; refine (CC.out _ hg1).mono ?_; rintro e w' ⟨B1, e1, rfl, ho, hg⟩; obtain ⟨x1, rfl⟩ := hg.later; have HO := hide ho; clear ho hg)
    | (go_at_call 41; refine (CD.out _ _ _ x1.grows HO.out).mono ?_; rintro e w' ⟨y2, rfl, rfl, ho⟩; have HO2 := hide ho; clear ho)
    | (go_at_call 44; refine (CS.out _ _ _ HO2.out).mono ?_; rintro e w' ⟨rfl, htt, ho⟩; have HT3 := hide htt; have HO3 := hide ho; clear ho htt))
  go_ret
  refine ⟨B1, e1, rfl, HO3.out.rd, HT3.out.later (hg1.trans y2.grows) (fun k hk => ?_)⟩
  obtain ⟨p, hp, rfl⟩ := hk
  have := (World.ownsRow.lt HO2.out p.block (by subst hp; rfl)).1
  have := HS.out
  omega
end Go.Proofs.YtomednfddpggaaaGreat

/- Contracts: which edges and nodes are on some shortest way, by the document's answer. -/
namespace Go.Proofs.YtomednfddpggaaaGreat
open Go Go.RowKit
attribute [local go_sem] Oper.semAt_some
def r16V (N s t : Nat) (A : Option Addr) (n c : Nat) (A1 : Option Addr) (c1 : Nat) (A2 : Option Addr) (c2 : Nat) : Value := .agg #[.int .i64 (N : Int), .slice A n c, .int .i64 (s : Int), .int .i64 (t : Int), .slice A1 N c1, .slice A2 N c2]
set_option maxRecDepth 20000 in
set_option maxHeartbeats 4000000 in
theorem r16Through (N s t : Nat) (v : Int) (A : Option Addr) (n c : Nat) (A1 : Option Addr) (c1 : Nat) (A2 : Option Addr) (c2 : Nat) (T F : List Nat) (w : World) (h3 : Rd w A1 1 N (wv T)) (h4 : Rd w A2 1 N (wv F)) (ht : t < N) (hT : ∀ v, gn T v ≤ farV) (hF : ∀ v, gn F v ≤ farV) (hTt : gn T t < farV) :
    Calls Tryz.prog 11 #[r16V N s t A n c A1 c1 A2 c2, .int .i64 v] w fun e w' => e = .returned (.bool (thB N T F t v)) ∧ Grows w w' := by
  unfold r16V
  obtain ⟨_, b1, o1, rfl, hc1⟩ := h3.wvH (by omega)
  obtain ⟨_, b2, o2, rfl, hc2⟩ := h4.wvH (by omega)
  by_cases hv : 0 ≤ v ∧ v < N
  · obtain ⟨k, rfl⟩ : ∃ k : Nat, v = (k : Int) := ⟨v.toNat, by omega⟩
    have hk : k < N := by omega
    have m1 := hc1 k hk
    have m2 := hc2 k hk
    have m3 := hc1 t ht
    have hT := hT k
    have hF := hF k
    have hr : thB N T F t (k : Int) = (decide ((gn T k : Int) < 4611686018427387904) && decide ((gn F k : Int) < 4611686018427387904) && ((gn T k : Int) + (gn F k : Int) == (gn T t : Int))) := by
      unfold thB
      rw [decide_eq_true hv, Bool.true_and, Int.toNat_natCast]
      unfold farV at hT hF hTt
      by_cases e : gn T k + gn F k = gn T t
      · rw [decide_eq_true e, beq_iff_eq.2 (by omega), decide_eq_true (by omega), decide_eq_true (by omega)]; rfl
      · rw [decide_eq_false e, beq_eq_false_iff_ne.2 (by omega), Bool.and_false]
    rw [hr]
    unfold farV at hT hF hTt
    have hs1 : IntKind.u64.wrap ((gn T k : Int) + (gn F k : Int)) = (gn T k : Int) + (gn F k : Int) := IntWalk.u64_in _ (by omega)
    have h0 : (0 : Int) ≤ (k : Int) := hv.1
    have h1 : (k : Int) < (N : Int) := hv.2
    clear hc1 hc2 h3 h4 hT hF hr hTt
    generalize (gn T k : Int) = xk at *
    generalize (gn F k : Int) = yk at *
    by_cases q1 : xk < 4611686018427387904
    · by_cases q2 : yk < 4611686018427387904
      · rw [decide_eq_true q1, decide_eq_true q2, Bool.true_and, Bool.true_and]
        go_enter Tryz.func11, Tryz.ntmps11
        go_wp2_with fail
        ((first | refine wp_region_gen (by kernel_rfl) (by kernel_rfl) ?_); (repeat' (first | (refine gLex_val0 rfl (by kernel_rfl) (fun K hK => ?_); (go_simp; (try (simp only [↓IntWalk.iteOmega]; try go_simp)); (try simp (disch := omega) only [IntWalk.i64_in]); (try simp (disch := omega) only [IntWalk.u64_in]); first | (refine hK _ ?_; clear hK K) | (apply Exists.intro; refine ⟨fun x => ?_, hK _ ?_⟩; (first | fail); clear hK K))) | (refine gLex_undef rfl rfl rfl (by kernel_rfl) (fun K hK => ?_); go_simp; refine hK _ ?_; clear hK K) | (refine gLex_ask rfl rfl rfl ?_; first | (apply gAsk_yes; kernel_rfl; intro K hK; (go_simp; (try (simp only [↓IntWalk.iteOmega]; try go_simp)); (try simp (disch := omega) only [IntWalk.i64_in]); (try simp (disch := omega) only [IntWalk.u64_in]); first | (refine hK _ ?_; clear hK K) | (apply Exists.intro; refine ⟨fun x => ?_, hK _ ?_⟩; (first | fail); clear hK K))) | ((first | apply gAsk_no1 | apply gAsk_no2); kernel_rfl; intro K hK; simp [go_sem]; refine hK _ ?_; clear hK K) | (apply gAsk_part; kernel_rfl; all_goals (intro h K hK; (try simp only [Bool.not_true] at h); (try simp only [Bool.not_false] at h); (try simp only [decide_eq_true_eq] at h); (try simp only [decide_eq_false_iff_not] at h); first | (exfalso; first | contradiction | omega) | (go_simp; (try (simp only [↓IntWalk.iteOmega]; try go_simp)); (try simp (disch := omega) only [IntWalk.i64_in]); (try simp (disch := omega) only [IntWalk.u64_in]); first | (refine hK _ ?_; clear hK K) | (apply Exists.intro; refine ⟨fun x => ?_, hK _ ?_⟩; (first | fail); clear hK K))))))); all_goals ((apply gLex_end); intro x))
        go_wp2_with fail
        go_ret
        exact ⟨rfl, GG⟩
      · rw [decide_eq_true q1, decide_eq_false q2, Bool.true_and, Bool.false_and]
        go_enter Tryz.func11, Tryz.ntmps11
        go_wp2_with fail
        ((first | refine wp_region_gen (by kernel_rfl) (by kernel_rfl) ?_); (repeat' (first | (refine gLex_val0 rfl (by kernel_rfl) (fun K hK => ?_); (go_simp; (try (simp only [↓IntWalk.iteOmega]; try go_simp)); (try simp (disch := omega) only [IntWalk.i64_in]); (try simp (disch := omega) only [IntWalk.u64_in]); first | (refine hK _ ?_; clear hK K) | (apply Exists.intro; refine ⟨fun x => ?_, hK _ ?_⟩; (first | fail); clear hK K))) | (refine gLex_undef rfl rfl rfl (by kernel_rfl) (fun K hK => ?_); go_simp; refine hK _ ?_; clear hK K) | (refine gLex_ask rfl rfl rfl ?_; first | (apply gAsk_yes; kernel_rfl; intro K hK; (go_simp; (try (simp only [↓IntWalk.iteOmega]; try go_simp)); (try simp (disch := omega) only [IntWalk.i64_in]); (try simp (disch := omega) only [IntWalk.u64_in]); first | (refine hK _ ?_; clear hK K) | (apply Exists.intro; refine ⟨fun x => ?_, hK _ ?_⟩; (first | fail); clear hK K))) | ((first | apply gAsk_no1 | apply gAsk_no2); kernel_rfl; intro K hK; simp [go_sem]; refine hK _ ?_; clear hK K) | (apply gAsk_part; kernel_rfl; all_goals (intro h K hK; (try simp only [Bool.not_true] at h); (try simp only [Bool.not_false] at h); (try simp only [decide_eq_true_eq] at h); (try simp only [decide_eq_false_iff_not] at h); first | (exfalso; first | contradiction | omega) | (go_simp; (try (simp only [↓IntWalk.iteOmega]; try go_simp)); (try simp (disch := omega) only [IntWalk.i64_in]); (try simp (disch := omega) only [IntWalk.u64_in]); first | (refine hK _ ?_; clear hK K) | (apply Exists.intro; refine ⟨fun x => ?_, hK _ ?_⟩; (first | fail); clear hK K))))))); all_goals ((apply gLex_end); intro x))
        go_wp2_with fail
        go_ret
        exact ⟨rfl, GG⟩
    · rw [decide_eq_false q1, Bool.false_and, Bool.false_and]
      go_enter Tryz.func11, Tryz.ntmps11
      go_wp2_with fail
      ((first | refine wp_region_gen (by kernel_rfl) (by kernel_rfl) ?_); (repeat' (first | (refine gLex_val0 rfl (by kernel_rfl) (fun K hK => ?_); (go_simp; (try (simp only [↓IntWalk.iteOmega]; try go_simp)); (try simp (disch := omega) only [IntWalk.i64_in]); (try simp (disch := omega) only [IntWalk.u64_in]); first | (refine hK _ ?_; clear hK K) | (apply Exists.intro; refine ⟨fun x => ?_, hK _ ?_⟩; (first | fail); clear hK K))) | (refine gLex_undef rfl rfl rfl (by kernel_rfl) (fun K hK => ?_); go_simp; refine hK _ ?_; clear hK K) | (refine gLex_ask rfl rfl rfl ?_; first | (apply gAsk_yes; kernel_rfl; intro K hK; (go_simp; (try (simp only [↓IntWalk.iteOmega]; try go_simp)); (try simp (disch := omega) only [IntWalk.i64_in]); (try simp (disch := omega) only [IntWalk.u64_in]); first | (refine hK _ ?_; clear hK K) | (apply Exists.intro; refine ⟨fun x => ?_, hK _ ?_⟩; (first | fail); clear hK K))) | ((first | apply gAsk_no1 | apply gAsk_no2); kernel_rfl; intro K hK; simp [go_sem]; refine hK _ ?_; clear hK K) | (apply gAsk_part; kernel_rfl; all_goals (intro h K hK; (try simp only [Bool.not_true] at h); (try simp only [Bool.not_false] at h); (try simp only [decide_eq_true_eq] at h); (try simp only [decide_eq_false_iff_not] at h); first | (exfalso; first | contradiction | omega) | (go_simp; (try (simp only [↓IntWalk.iteOmega]; try go_simp)); (try simp (disch := omega) only [IntWalk.i64_in]); (try simp (disch := omega) only [IntWalk.u64_in]); first | (refine hK _ ?_; clear hK K) | (apply Exists.intro; refine ⟨fun x => ?_, hK _ ?_⟩; (first | fail); clear hK K))))))); all_goals ((apply gLex_end); intro x))
      go_wp2_with fail
      go_ret
      exact ⟨rfl, GG⟩
  · have hr : thB N T F t v = false := by unfold thB; rw [decide_eq_false hv]; rfl
    rw [hr]
    clear hc1 hc2 h3 h4 hT hF hr hTt
    by_cases h0 : 0 ≤ v
    · have h1 : ¬ v < (N : Int) := fun h => hv ⟨h0, h⟩
      clear hv
      go_enter Tryz.func11, Tryz.ntmps11
      go_wp2_with fail
      ((first | refine wp_region_gen (by kernel_rfl) (by kernel_rfl) ?_); (repeat' (first | (refine gLex_val0 rfl (by kernel_rfl) (fun K hK => ?_); (go_simp; (try (simp only [↓IntWalk.iteOmega]; try go_simp)); (try simp (disch := omega) only [IntWalk.i64_in]); (try simp (disch := omega) only [IntWalk.u64_in]); first | (refine hK _ ?_; clear hK K) | (apply Exists.intro; refine ⟨fun x => ?_, hK _ ?_⟩; (first | fail); clear hK K))) | (refine gLex_undef rfl rfl rfl (by kernel_rfl) (fun K hK => ?_); go_simp; refine hK _ ?_; clear hK K) | (refine gLex_ask rfl rfl rfl ?_; first | (apply gAsk_yes; kernel_rfl; intro K hK; (go_simp; (try (simp only [↓IntWalk.iteOmega]; try go_simp)); (try simp (disch := omega) only [IntWalk.i64_in]); (try simp (disch := omega) only [IntWalk.u64_in]); first | (refine hK _ ?_; clear hK K) | (apply Exists.intro; refine ⟨fun x => ?_, hK _ ?_⟩; (first | fail); clear hK K))) | ((first | apply gAsk_no1 | apply gAsk_no2); kernel_rfl; intro K hK; simp [go_sem]; refine hK _ ?_; clear hK K) | (apply gAsk_part; kernel_rfl; all_goals (intro h K hK; (try simp only [Bool.not_true] at h); (try simp only [Bool.not_false] at h); (try simp only [decide_eq_true_eq] at h); (try simp only [decide_eq_false_iff_not] at h); first | (exfalso; first | contradiction | omega) | (go_simp; (try (simp only [↓IntWalk.iteOmega]; try go_simp)); (try simp (disch := omega) only [IntWalk.i64_in]); (try simp (disch := omega) only [IntWalk.u64_in]); first | (refine hK _ ?_; clear hK K) | (apply Exists.intro; refine ⟨fun x => ?_, hK _ ?_⟩; (first | fail); clear hK K))))))); all_goals ((apply gLex_end); intro x))
      go_wp2_with fail
      go_ret
      exact ⟨rfl, GG⟩
    · clear hv
      go_enter Tryz.func11, Tryz.ntmps11
      go_wp2_with fail
      ((first | refine wp_region_gen (by kernel_rfl) (by kernel_rfl) ?_); (repeat' (first | (refine gLex_val0 rfl (by kernel_rfl) (fun K hK => ?_); (go_simp; (try (simp only [↓IntWalk.iteOmega]; try go_simp)); (try simp (disch := omega) only [IntWalk.i64_in]); (try simp (disch := omega) only [IntWalk.u64_in]); first | (refine hK _ ?_; clear hK K) | (apply Exists.intro; refine ⟨fun x => ?_, hK _ ?_⟩; (first | fail); clear hK K))) | (refine gLex_undef rfl rfl rfl (by kernel_rfl) (fun K hK => ?_); go_simp; refine hK _ ?_; clear hK K) | (refine gLex_ask rfl rfl rfl ?_; first | (apply gAsk_yes; kernel_rfl; intro K hK; (go_simp; (try (simp only [↓IntWalk.iteOmega]; try go_simp)); (try simp (disch := omega) only [IntWalk.i64_in]); (try simp (disch := omega) only [IntWalk.u64_in]); first | (refine hK _ ?_; clear hK K) | (apply Exists.intro; refine ⟨fun x => ?_, hK _ ?_⟩; (first | fail); clear hK K))) | ((first | apply gAsk_no1 | apply gAsk_no2); kernel_rfl; intro K hK; simp [go_sem]; refine hK _ ?_; clear hK K) | (apply gAsk_part; kernel_rfl; all_goals (intro h K hK; (try simp only [Bool.not_true] at h); (try simp only [Bool.not_false] at h); (try simp only [decide_eq_true_eq] at h); (try simp only [decide_eq_false_iff_not] at h); first | (exfalso; first | contradiction | omega) | (go_simp; (try (simp only [↓IntWalk.iteOmega]; try go_simp)); (try simp (disch := omega) only [IntWalk.i64_in]); (try simp (disch := omega) only [IntWalk.u64_in]); first | (refine hK _ ?_; clear hK K) | (apply Exists.intro; refine ⟨fun x => ?_, hK _ ?_⟩; (first | fail); clear hK K))))))); all_goals ((apply gLex_end); intro x))
      go_wp2_with fail
      go_ret
      exact ⟨rfl, GG⟩
set_option maxRecDepth 40000 in
set_option maxHeartbeats 8000000 in
theorem r16On (N s t i : Nat) (A : Option Addr) (c : Nat) (E : List Edg) (A1 : Option Addr) (c1 : Nat) (A2 : Option Addr) (c2 : Nat) (T F : List Nat) (w : World) (h : Rd w A 3 E.length (esCells E)) (hr : rightF N E = 0) (hi : i < E.length) (h3 : Rd w A1 1 N (wv T)) (h4 : Rd w A2 1 N (wv F)) (ht : t < N) (hT : ∀ v, gn T v ≤ farV) (hF : ∀ v, gn F v ≤ farV) (hTt : gn T t < farV) :
    Calls Tryz.prog 10 #[r16V N s t A E.length c A1 c1 A2 c2, .int .i64 (i : Int)] w fun e w' => e = .returned (.bool (onB T F t (fN E i) (tN E i) (gn (wtF N E []) i))) ∧ Grows w w' := by
  unfold r16V
  obtain ⟨r1, r2, _, r4, r5⟩ := right_in hr
  rw [Int.toNat_natCast] at r4
  have n1 := r4.f i hi
  have n2 := r4.t i hi
  have hwb := (noO_w hr i hi).2
  have e3 : gn (wtF N E []) i = (ge E i).w.toNat := by
    unfold wtF
    rw [if_neg (by omega), if_neg (by simp), if_neg (by simp)]
    simp [gn, eW, ge, hi]
  have hw5 := r5 i hi
  have f1 : (ge E i).f = (fN E i : Int) := by unfold fN; omega
  have f2 : (ge E i).t = (tN E i : Int) := by unfold tN; omega
  have f3 : (ge E i).w = (gn (wtF N E []) i : Int) := by rw [e3]; omega
  have hf : fN E i < N := by omega
  have hu : tN E i < N := by omega
  obtain ⟨bE, oE, rfl, hcE⟩ := h.edgesH (by omega)
  obtain ⟨k1, k2, k3⟩ := hcE i hi
  rw [f1] at k1
  rw [f2] at k2
  rw [f3] at k3
  obtain ⟨_, b1, o1, rfl, hc1⟩ := h3.wvH (by omega)
  obtain ⟨_, b2, o2, rfl, hc2⟩ := h4.wvH (by omega)
  clear f1 f2 f3 e3 n1 n2 hw5 r1 r2 r4 r5 hcE h hr
  generalize fN E i = f at *
  generalize tN E i = u at *
  generalize gn (wtF N E []) i = wg at *
  have m1 := hc1 f hf
  have m2 := hc2 u hu
  have m3 := hc1 t ht
  have hT := hT f
  have hF := hF u
  have hr : onB T F t f u wg = (decide ((gn T f : Int) < 4611686018427387904) && decide ((gn F u : Int) < 4611686018427387904) && ((gn T f : Int) + (wg : Int) + (gn F u : Int) == (gn T t : Int))) := by
    unfold onB
    unfold farV at hT hF hTt
    by_cases e : gn T f + wg + gn F u = gn T t
    · rw [decide_eq_true e, beq_iff_eq.2 (by omega), decide_eq_true (by omega), decide_eq_true (by omega)]; rfl
    · rw [decide_eq_false e, beq_eq_false_iff_ne.2 (by omega), Bool.and_false]
  rw [hr]
  unfold farV at hT hF hTt
  have hs1 : IntKind.u64.wrap ((gn T f : Int) + (wg : Int)) = (gn T f : Int) + (wg : Int) := IntWalk.u64_in _ (by omega)
  have hs2 : IntKind.u64.wrap ((gn T f : Int) + (wg : Int) + (gn F u : Int)) = (gn T f : Int) + (wg : Int) + (gn F u : Int) := IntWalk.u64_in _ (by omega)
  clear hc1 hc2 h3 h4 hT hF hr hTt hwb
  generalize (gn T f : Int) = xk at *
  generalize (gn F u : Int) = yk at *
  by_cases q1 : xk < 4611686018427387904
  · by_cases q2 : yk < 4611686018427387904
    · rw [decide_eq_true q1, decide_eq_true q2, Bool.true_and, Bool.true_and]
      go_enter Tryz.func10, Tryz.ntmps10
      go_upto_region 2 with fail
      ((first | refine wp_region_gen (by kernel_rfl) (by kernel_rfl) ?_); (repeat' (first | (refine gLex_val0 rfl (by kernel_rfl) (fun K hK => ?_); (go_simp; (try (simp only [↓IntWalk.iteOmega]; try go_simp)); (try simp (disch := omega) only [IntWalk.i64_in]); (try simp (disch := omega) only [IntWalk.u64_in]); first | (refine hK _ ?_; clear hK K) | (apply Exists.intro; refine ⟨fun x => ?_, hK _ ?_⟩; (first | fail); clear hK K))) | (refine gLex_undef rfl rfl rfl (by kernel_rfl) (fun K hK => ?_); go_simp; refine hK _ ?_; clear hK K) | (refine gLex_ask rfl rfl rfl ?_; first | (apply gAsk_yes; kernel_rfl; intro K hK; (go_simp; (try (simp only [↓IntWalk.iteOmega]; try go_simp)); (try simp (disch := omega) only [IntWalk.i64_in]); (try simp (disch := omega) only [IntWalk.u64_in]); first | (refine hK _ ?_; clear hK K) | (apply Exists.intro; refine ⟨fun x => ?_, hK _ ?_⟩; (first | fail); clear hK K))) | ((first | apply gAsk_no1 | apply gAsk_no2); kernel_rfl; intro K hK; simp [go_sem]; refine hK _ ?_; clear hK K) | (apply gAsk_part; kernel_rfl; all_goals (intro h K hK; (try simp only [Bool.not_true] at h); (try simp only [Bool.not_false] at h); (try simp only [decide_eq_true_eq] at h); (try simp only [decide_eq_false_iff_not] at h); first | (exfalso; first | contradiction | omega) | (go_simp; (try (simp only [↓IntWalk.iteOmega]; try go_simp)); (try simp (disch := omega) only [IntWalk.i64_in]); (try simp (disch := omega) only [IntWalk.u64_in]); first | (refine hK _ ?_; clear hK K) | (apply Exists.intro; refine ⟨fun x => ?_, hK _ ?_⟩; (first | fail); clear hK K))))))); all_goals ((apply gLex_end); intro x))
      go_wp2_with fail
      go_ret
      exact ⟨rfl, GG⟩
    · rw [decide_eq_true q1, decide_eq_false q2, Bool.true_and, Bool.false_and]
      go_enter Tryz.func10, Tryz.ntmps10
      go_upto_region 2 with fail
      ((first | refine wp_region_gen (by kernel_rfl) (by kernel_rfl) ?_); (repeat' (first | (refine gLex_val0 rfl (by kernel_rfl) (fun K hK => ?_); (go_simp; (try (simp only [↓IntWalk.iteOmega]; try go_simp)); (try simp (disch := omega) only [IntWalk.i64_in]); (try simp (disch := omega) only [IntWalk.u64_in]); first | (refine hK _ ?_; clear hK K) | (apply Exists.intro; refine ⟨fun x => ?_, hK _ ?_⟩; (first | fail); clear hK K))) | (refine gLex_undef rfl rfl rfl (by kernel_rfl) (fun K hK => ?_); go_simp; refine hK _ ?_; clear hK K) | (refine gLex_ask rfl rfl rfl ?_; first | (apply gAsk_yes; kernel_rfl; intro K hK; (go_simp; (try (simp only [↓IntWalk.iteOmega]; try go_simp)); (try simp (disch := omega) only [IntWalk.i64_in]); (try simp (disch := omega) only [IntWalk.u64_in]); first | (refine hK _ ?_; clear hK K) | (apply Exists.intro; refine ⟨fun x => ?_, hK _ ?_⟩; (first | fail); clear hK K))) | ((first | apply gAsk_no1 | apply gAsk_no2); kernel_rfl; intro K hK; simp [go_sem]; refine hK _ ?_; clear hK K) | (apply gAsk_part; kernel_rfl; all_goals (intro h K hK; (try simp only [Bool.not_true] at h); (try simp only [Bool.not_false] at h); (try simp only [decide_eq_true_eq] at h); (try simp only [decide_eq_false_iff_not] at h); first | (exfalso; first | contradiction | omega) | (go_simp; (try (simp only [↓IntWalk.iteOmega]; try go_simp)); (try simp (disch := omega) only [IntWalk.i64_in]); (try simp (disch := omega) only [IntWalk.u64_in]); first | (refine hK _ ?_; clear hK K) | (apply Exists.intro; refine ⟨fun x => ?_, hK _ ?_⟩; (first | fail); clear hK K))))))); all_goals ((apply gLex_end); intro x))
      go_wp2_with fail
      go_ret
      exact ⟨rfl, GG⟩
  · rw [decide_eq_false q1, Bool.false_and, Bool.false_and]
    go_enter Tryz.func10, Tryz.ntmps10
    go_upto_region 2 with fail
    ((first | refine wp_region_gen (by kernel_rfl) (by kernel_rfl) ?_); (repeat' (first | (refine gLex_val0 rfl (by kernel_rfl) (fun K hK => ?_); (go_simp; (try (simp only [↓IntWalk.iteOmega]; try go_simp)); (try simp (disch := omega) only [IntWalk.i64_in]); (try simp (disch := omega) only [IntWalk.u64_in]); first | (refine hK _ ?_; clear hK K) | (apply Exists.intro; refine ⟨fun x => ?_, hK _ ?_⟩; (first | fail); clear hK K))) | (refine gLex_undef rfl rfl rfl (by kernel_rfl) (fun K hK => ?_); go_simp; refine hK _ ?_; clear hK K) | (refine gLex_ask rfl rfl rfl ?_; first | (apply gAsk_yes; kernel_rfl; intro K hK; (go_simp; (try (simp only [↓IntWalk.iteOmega]; try go_simp)); (try simp (disch := omega) only [IntWalk.i64_in]); (try simp (disch := omega) only [IntWalk.u64_in]); first | (refine hK _ ?_; clear hK K) | (apply Exists.intro; refine ⟨fun x => ?_, hK _ ?_⟩; (first | fail); clear hK K))) | ((first | apply gAsk_no1 | apply gAsk_no2); kernel_rfl; intro K hK; simp [go_sem]; refine hK _ ?_; clear hK K) | (apply gAsk_part; kernel_rfl; all_goals (intro h K hK; (try simp only [Bool.not_true] at h); (try simp only [Bool.not_false] at h); (try simp only [decide_eq_true_eq] at h); (try simp only [decide_eq_false_iff_not] at h); first | (exfalso; first | contradiction | omega) | (go_simp; (try (simp only [↓IntWalk.iteOmega]; try go_simp)); (try simp (disch := omega) only [IntWalk.i64_in]); (try simp (disch := omega) only [IntWalk.u64_in]); first | (refine hK _ ?_; clear hK K) | (apply Exists.intro; refine ⟨fun x => ?_, hK _ ?_⟩; (first | fail); clear hK K))))))); all_goals ((apply gLex_end); intro x))
    go_wp2_with fail
    go_ret
    exact ⟨rfl, GG⟩
end Go.Proofs.YtomednfddpggaaaGreat

/- Contract: the edges that are on all shortest ways, by the document's answer. -/
namespace Go.Proofs.YtomednfddpggaaaGreat
open Go Go.RowKit
attribute [local go_sem] Oper.semAt_some
theorem r14AllE16 (N s e : Nat) (A : Option Addr) (c b off ce : Nat) (E : List Edg) (w : World) (h : Rd w A 3 E.length (esCells E)) (hr : rightF N E = 0) (hs : s < N) (hb : Rd w (some ⟨b, off, none⟩) 1 1 (([(e : Int)] : List Int).map (.int .i64))) :
    Calls Tryz.prog 37 #[.agg #[.int .i64 (N : Int), .slice A E.length c], .int .i64 (s : Int), .agg #[.bool false, .slice none 0 0, .slice (some ⟨b, off, none⟩) 1 ce, .slice none 0 0, .int .u64 0]] w fun x w' => ∃ gd, x = .returned (.slice (some ⟨gd, 0, none⟩) N N) ∧ Row1 w' gd 38 1 N N (wv (refL (eX N E e) s)) ∧ Grows w w' := by
  have h0 : Rd w none 1 0 [] := ⟨by simp, fun h => absurd h (by simp)⟩
  have hw0 : Rd w none 1 0 (wv []) := ⟨by simp [wv], fun h => absurd h (by simp)⟩
  exact r14All N s A c E (noO [(e : Int)]) none (some ⟨b, off, none⟩) none 0 ce 0 w h h0 hb hw0 (noO_ok hr hs (by simp)) (fun i hi => (noO_w hr i hi).2)
theorem row_at16 {w : World} {g NN : Nat} {L : List Nat} (h : Row1 w g 38 1 NN NN (wv L)) (hl : L.length = NN) {v : Nat} (hv : v < NN) : Holds w ⟨g, v, none⟩ (.int .u64 (gn L v : Int)) := ⟨(h.mine (wv_at (by omega))).cell⟩
def OptE16 (i : Nat) : Pr := fun u w => ∃ g, u = .agg #[.bool false, .slice none 0 0, .slice (some ⟨g, 0, none⟩) 1 1, .slice none 0 0, .int .u64 0] ∧ Holds w ⟨g, 0, none⟩ (.int .i64 (i : Int))
theorem OptE16.lasts (i : Nat) : Lasts (OptE16 i) := fun _ _ _ hg ⟨g, e, h⟩ => ⟨g, e, ⟨hg.keeps h.cell⟩⟩
theorem rd_one16 {w : World} {g i : Nat} (h : Holds w ⟨g, 0, none⟩ (.int .i64 (i : Int))) : Rd w (some ⟨g, 0, none⟩) 1 1 (([(i : Int)] : List Int).map (.int .i64)) := ⟨by simp, fun _ _ => ⟨g, 0, rfl, by
  intro j v hv
  have : j = 0 := by
    have := (List.getElem?_eq_some_iff.1 hv).1
    simpa using this
  subst this
  simp at hv
  subst hv
  simpa using h.cell⟩⟩
def brP16 (N : Nat) (E : List Edg) (s : Nat) (T F : List Nat) (t i : Nat) : Bool := onP N E T F t i && decide (gn T t < gn (refL (eX N E i) s) t)
set_option maxRecDepth 40000 in
set_option maxHeartbeats 8000000 in
theorem r16Bridges (N s t : Nat) (A : Option Addr) (c : Nat) (E : List Edg) (A1 : Option Addr) (c1 : Nat) (A2 : Option Addr) (c2 : Nat) (T F : List Nat) (w : World) (h : Rd w A 3 E.length (esCells E)) (hr : rightF N E = 0) (hs : s < N) (ht : t < N) (h3 : Rd w A1 1 N (wv T)) (h4 : Rd w A2 1 N (wv F)) (hT : ∀ v, gn T v ≤ farV) (hF : ∀ v, gn F v ≤ farV) (hTt : gn T t < farV) :
    Calls Tryz.prog 18 #[r16V N s t A E.length c A1 c1 A2 c2] w fun e w' => ∃ A' c', e = .returned (.slice A' (fltL (brP16 N E s T F t) E.length).length c') ∧ Rd w' A' 1 (fltL (brP16 N E s T F t) E.length).length ((fltL (brP16 N E s T F t) E.length).map (.int .i64)) ∧ Grows w w' := by
  have hEl : E.length ≤ 16384 := (right_in hr).2.2.1
  have CO := hide (fun (i : Nat) (hi : i < E.length) (W : World) (g : Grows w W) => r16On N s t i A c E A1 c1 A2 c2 T F W (h.grows g) hr hi (h3.grows g) (h4.grows g) ht hT hF hTt)
  have CR := hide (fun (i b : Nat) (W : World) (g : Grows w W) (hb : Holds W ⟨b, 0, none⟩ (.int .i64 (i : Int))) => r14AllE16 N s i A c b 0 1 E W (h.grows g) hr hs (rd_one16 hb))
  have HP := hide (fun i : Nat => show brP16 N E s T F t i = (onB T F t (fN E i) (tN E i) (gn (wtF N E []) i) && decide (gn T t < gn (refL (eX N E i) s) t)) from rfl)
  have HFL := hide (fun e : Nat => show (refL (eX N E e) s).length = N from by unfold refL; split <;> simp [cutL, rndK_len, dBeg, srchOf])
  unfold r16V
  unfold r16V at CO
  have hwl := h3.wlen
  obtain ⟨_, b1, o1, rfl, hc1⟩ := h3.wvH (by omega)
  have m3 := hc1 t ht
  clear h hr hs h3 h4 hT hF hTt hc1
  generalize hp : brP16 N E s T F t = p at *
  clear hp
  go_enter Tryz.func18, Tryz.ntmps18
  go_upto_region 3 with fail
  have a1 : Arr (w.alloc (.cells #[.int .i64 (N : Int), .slice A E.length c, .int .i64 (s : Int), .int .i64 (t : Int), .slice (some ⟨b1, o1, none⟩) N c1, .slice A2 N c2] 33)) w.heap.size 33 [.int .i64 (N : Int), .slice A E.length c, .int .i64 (s : Int), .int .i64 (t : Int), .slice (some ⟨b1, o1, none⟩) N c1, .slice A2 N c2] := Arr.make _ _ _
  have hg1 : Grows w (w.alloc (.cells #[.int .i64 (N : Int), .slice A E.length c, .int .i64 (s : Int), .int .i64 (t : Int), .slice (some ⟨b1, o1, none⟩) N c1, .slice A2 N c2] 33)) := (Grows.refl _).new _
  generalize w.alloc (.cells #[.int .i64 (N : Int), .slice A E.length c, .int .i64 (s : Int), .int .i64 (t : Int), .slice (some ⟨b1, o1, none⟩) N c1, .slice A2 N c2] 33) = W1 at *
  generalize w.heap.size = bx at *
  obtain ⟨y1, rfl⟩ := hg1.later
  have t0 := a1.mine 0 rfl
  have t1 := a1.mine 1 rfl
  have t2 := a1.mine 2 rfl
  have t3 := a1.mine 3 rfl
  have t4 := a1.mine 4 rfl
  have t5 := a1.mine 5 rfl
  clear a1 hg1
  go_wp2_with fail
  go_loopw [4, 3] (fun i u wr => ∃ k : Nat, k ≤ E.length ∧ i = .int .i64 (k : Int) ∧ ∃ y : Later y1.now, wr = y.now ∧ ∃ A1 c1 s1, u = .slice A1 s1 c1 ∧ Hid (s1 = (fltL p k).length) ∧ Own y.now y1.now.heap.size 3 1 A1 s1 c1 ((fltL p k).map (.int .i64))) (fun i _ _ => E.length - (Go.RowKit.intOf i).toNat)
  case atStart => exact ⟨0, by omega, by go_num, ⟨_, Grows.refl _⟩, rfl, none, 0, 0, rfl, rfl, Own.nil _ _ _ _⟩
  case round =>
    obtain ⟨k, hk, rfl, y, rfl, B2, e2, s2, rfl, HS1, hown⟩ := hrel
    have HO := hide hown
    clear hown
    by_cases hlt : k < E.length
    · have hs1 : s2 ≤ 1000000 := by have := HS1.out; have := fltL_len p k; omega
      have COk := hide (CO.out k hlt)
      have CRk := hide (CR.out k)
      have HPk := hide (HP.out k)
      have HFk := hide (HFL.out k)
      generalize onB T F t (fN E k) (tN E k) (gn (wtF N E []) k) = q at *
      generalize refL (eX N E k) s = D at *
      clear CO CR HP HFL
      cases q with
      | false =>
        have HNX := hide (fltL_no (p := p) (k := k) (by rw [HPk.out]; rfl))
        go_upto_region 5 with fail
        ((first | refine wp_region_gen (by kernel_rfl) (by kernel_rfl) ?_); (repeat' (first | (refine gLex_val0 rfl (by kernel_rfl) (fun K hK => ?_); (go_simp; (try (simp only [↓IntWalk.iteOmega]; try go_simp)); (try simp (disch := omega) only [IntWalk.i64_in]); (try simp (disch := omega) only [IntWalk.u64_in]); first | (refine hK _ ?_; clear hK K) | (apply Exists.intro; refine ⟨fun x => ?_, hK _ ?_⟩; (first | (go_at_call 10; exact COk.out _ (y1.grows.trans (y.grows.trans GG)))); clear hK K))) | (refine gLex_undef rfl rfl rfl (by kernel_rfl) (fun K hK => ?_); go_simp; refine hK _ ?_; clear hK K) | (refine gLex_ask rfl rfl rfl ?_; first | (apply gAsk_yes; kernel_rfl; intro K hK; (go_simp; (try (simp only [↓IntWalk.iteOmega]; try go_simp)); (try simp (disch := omega) only [IntWalk.i64_in]); (try simp (disch := omega) only [IntWalk.u64_in]); first | (refine hK _ ?_; clear hK K) | (apply Exists.intro; refine ⟨fun x => ?_, hK _ ?_⟩; (first | (go_at_call 10; exact COk.out _ (y1.grows.trans (y.grows.trans GG)))); clear hK K))) | ((first | apply gAsk_no1 | apply gAsk_no2); kernel_rfl; intro K hK; simp [go_sem]; refine hK _ ?_; clear hK K) | (apply gAsk_part; kernel_rfl; all_goals (intro h K hK; (try simp only [Bool.not_true] at h); (try simp only [Bool.not_false] at h); (try simp only [decide_eq_true_eq] at h); (try simp only [decide_eq_false_iff_not] at h); first | (exfalso; first | contradiction | omega) | (go_simp; (try (simp only [↓IntWalk.iteOmega]; try go_simp)); (try simp (disch := omega) only [IntWalk.i64_in]); (try simp (disch := omega) only [IntWalk.u64_in]); first | (refine hK _ ?_; clear hK K) | (apply Exists.intro; refine ⟨fun x => ?_, hK _ ?_⟩; (first | (go_at_call 10; exact COk.out _ (y1.grows.trans (y.grows.trans GG)))); clear hK K))))))); all_goals ((apply gLex_end); intro x))
        go_wp2_with fail
        obtain ⟨y6, hy6⟩ := (y.grows.trans (show Grows y.now x.now from GG)).later
        refine ⟨⟨k + 1, by omega, by go_num, y6, hy6, B2, e2, s2, rfl, by show s2 = _; rw [HNX.out]; exact HS1.out, ?_⟩, by simp [Go.RowKit.intOf]; omega⟩
        rw [← hy6, HNX.out]
        exact HO.out.grows (show Grows y.now x.now from GG)
      | true =>
        obtain ⟨fw, hfw⟩ : ∃ q : Int, (gn D t : Int) = q := ⟨_, rfl⟩
        obtain ⟨tw, htw⟩ : ∃ q : Int, (gn T t : Int) = q := ⟨_, rfl⟩
        rw [htw] at m3
        have HDF := hide (show p k = decide (tw < fw) from by rw [HPk.out, Bool.true_and]; exact decide_eq_decide.2 (by omega))
        have HFW := hide hfw
        clear hfw htw HPk
        go_upto_region 5 with fail
        refine wp_region_gen (by kernel_rfl) (by kernel_rfl) ?_
        (repeat' (first | (refine gLex_val0 rfl (by kernel_rfl) (fun K hK => ?_); (go_simp; (try (simp only [↓IntWalk.iteOmega]; try go_simp)); (try simp (disch := omega) only [IntWalk.i64_in]); (try simp (disch := omega) only [IntWalk.u64_in]); first | (refine hK _ ?_; clear hK K) | (apply Exists.intro; refine ⟨fun x => ?_, hK _ ?_⟩; (first | (go_at_call 10; exact COk.out _ (y1.grows.trans (y.grows.trans GG)))); clear hK K))) | (refine gLex_undef rfl rfl rfl (by kernel_rfl) (fun K hK => ?_); go_simp; refine hK _ ?_; clear hK K) | (refine gLex_ask rfl rfl rfl ?_; first | (apply gAsk_yes; kernel_rfl; intro K hK; (go_simp; (try (simp only [↓IntWalk.iteOmega]; try go_simp)); (try simp (disch := omega) only [IntWalk.i64_in]); (try simp (disch := omega) only [IntWalk.u64_in]); first | (refine hK _ ?_; clear hK K) | (apply Exists.intro; refine ⟨fun x => ?_, hK _ ?_⟩; (first | (go_at_call 10; exact COk.out _ (y1.grows.trans (y.grows.trans GG)))); clear hK K))) | ((first | apply gAsk_no1 | apply gAsk_no2); kernel_rfl; intro K hK; simp [go_sem]; refine hK _ ?_; clear hK K))))
        refine gLex_propG (by kernel_rfl) (by kernel_rfl) rfl (by simp) (One (.int .i64 (k : Int))) (One.lasts _) (fun x => by (go_simp; exact ⟨(Grows.refl _).new _, _, rfl, inferInstance⟩)) ?_
        refine gLex_dep (t0 := 22) (by kernel_rfl) (by kernel_rfl) rfl (by simp) rfl (by simp) (OptE16 k) (OptE16.lasts k) (fun x u hu => by
          obtain ⟨g, rfl, hh⟩ := hu
          go_simp
          all_goals first | exact ⟨Grows.refl _, g, rfl, hh⟩ | exact ⟨g, rfl, hh⟩) ?_
        refine gLex_dep (t0 := 23) (by kernel_rfl) (by kernel_rfl) rfl (by simp) rfl (by simp) (fun u' w' => ∃ gd, u' = .slice (some ⟨gd, 0, none⟩) N N ∧ Row1 w' gd 38 1 N N (wv D)) (fun _ _ _ hg ⟨gd, e, h⟩ => ⟨gd, e, h.grow hg⟩) (fun x u hu => by
          obtain ⟨g, rfl, hh⟩ := hu
          go_simp
          refine (CRk.out g _ (y1.grows.trans (y.grows.trans x.grows)) hh).mono ?_
          rintro e w' ⟨gd, rfl, hrow, hg⟩
          exact ⟨_, rfl, hg, gd, rfl, hrow⟩) ?_
        (repeat' (first | (refine gLex_val0 rfl (by kernel_rfl) (fun K hK => ?_); (go_simp; (try (simp only [↓IntWalk.iteOmega]; try go_simp)); (try simp (disch := omega) only [IntWalk.i64_in]); (try simp (disch := omega) only [IntWalk.u64_in]); first | (refine hK _ ?_; clear hK K) | (apply Exists.intro; refine ⟨fun x => ?_, hK _ ?_⟩; (first | fail); clear hK K))) | (refine gLex_undef rfl rfl rfl (by kernel_rfl) (fun K hK => ?_); go_simp; refine hK _ ?_; clear hK K) | (refine gLex_ask rfl rfl rfl ?_; first | (apply gAsk_yes; kernel_rfl; intro K hK; (go_simp; (try (simp only [↓IntWalk.iteOmega]; try go_simp)); (try simp (disch := omega) only [IntWalk.i64_in]); (try simp (disch := omega) only [IntWalk.u64_in]); first | (refine hK _ ?_; clear hK K) | (apply Exists.intro; refine ⟨fun x => ?_, hK _ ?_⟩; (first | fail); clear hK K))) | ((first | apply gAsk_no1 | apply gAsk_no2); kernel_rfl; intro K hK; simp [go_sem]; refine hK _ ?_; clear hK K))))
        refine gLex_dep (t0 := 24) (by kernel_rfl) (by kernel_rfl) rfl (by simp) rfl (by simp) (fun u' w' => ∃ gd, u' = .pointer (some ⟨gd, t, none⟩) ∧ Row1 w' gd 38 1 N N (wv D)) (fun _ _ _ hg ⟨gd, e, h⟩ => ⟨gd, e, h.grow hg⟩) (fun x u' hu' => by
          obtain ⟨gd, rfl, hrow⟩ := hu'
          go_simp
          all_goals exact ⟨Grows.refl _, gd, rfl, hrow⟩) ?_
        refine gLex_depV (t0 := 27) (by kernel_rfl) (by kernel_rfl) rfl (by simp) (.int .u64 fw) (fun x u' hu' => by
          obtain ⟨gd, rfl, hrow⟩ := hu'
          have c2 := row_at16 hrow HFk.out ht
          rw [HFW.out] at c2
          go_simp
          all_goals exact ⟨Grows.refl _, rfl⟩) ?_
        simp only [Act.put, List.setIfInBounds_toArray, List.set_cons_zero, List.set_cons_succ]
        (repeat' (first | (refine gLex_val0 rfl (by kernel_rfl) (fun K hK => ?_); (go_simp; (try (simp only [↓IntWalk.iteOmega]; try go_simp)); (try simp (disch := omega) only [IntWalk.i64_in]); (try simp (disch := omega) only [IntWalk.u64_in]); first | (refine hK _ ?_; clear hK K) | (apply Exists.intro; refine ⟨fun x => ?_, hK _ ?_⟩; (first | fail); clear hK K))) | (refine gLex_undef rfl rfl rfl (by kernel_rfl) (fun K hK => ?_); go_simp; refine hK _ ?_; clear hK K) | (refine gLex_ask rfl rfl rfl ?_; first | (apply gAsk_yes; kernel_rfl; intro K hK; (go_simp; (try (simp only [↓IntWalk.iteOmega]; try go_simp)); (try simp (disch := omega) only [IntWalk.i64_in]); (try simp (disch := omega) only [IntWalk.u64_in]); first | (refine hK _ ?_; clear hK K) | (apply Exists.intro; refine ⟨fun x => ?_, hK _ ?_⟩; (first | fail); clear hK K))) | ((first | apply gAsk_no1 | apply gAsk_no2); kernel_rfl; intro K hK; simp [go_sem]; refine hK _ ?_; clear hK K))))
        refine gLex_endB (fun x8 => ?_)
        refine AtB.pop rfl (by simp [Act.put]) (fun z1 _ => ?_)
        refine AtB.pop rfl (by simp [Act.put]) (fun z2 _ => ?_)
        refine AtB.pop rfl (by simp [Act.put]) (fun z3 _ => ?_)
        refine AtB.pop rfl (by simp [Act.put]) (fun z4 _ => ?_)
        refine AtB.base ?_
        simp only [Act.put, List.setIfInBounds_toArray, List.set_cons_zero, List.set_cons_succ]
        cases hd : decide (tw < fw) with
        | true =>
          have HNX := hide (fltL_yes (p := p) (k := k) (by rw [HDF.out]; exact hd))
          have hdd := of_decide_eq_true hd
          clear hd HDF
          go_wp2_with (at_builtin; refine wp_app1M elemInt rfl _ _ rfl y1.now GG s2 e2 B2 _ rfl (HO.out.grows GG) _ _ _ rfl inferInstance rfl (by omega) ?_; intro A6 c6 y6 hown6 hgr6; have HO6 := hide hown6; clear hown6 hgr6)
          go_roundw
          case measure => simp [Go.RowKit.intOf]; omega
          case rel => exact ⟨k + 1, by omega, by go_num, y6, rfl, A6, c6, s2 + 1, rfl, by show s2 + 1 = _; rw [HNX.out, List.length_append, ← HS1.out]; rfl, by rw [HNX.out, List.map_append]; exact HO6.out⟩
        | false =>
          have HNX := hide (fltL_no (p := p) (k := k) (by rw [HDF.out]; exact hd))
          have hdd := of_decide_eq_false hd
          clear hd HDF
          go_wp2_with fail
          obtain ⟨y6, hy6⟩ := (y.grows.trans (show Grows y.now x8.now from GG)).later
          refine ⟨⟨k + 1, by omega, by go_num, y6, hy6, B2, e2, s2, rfl, by show s2 = _; rw [HNX.out]; exact HS1.out, ?_⟩, by simp [Go.RowKit.intOf]; omega⟩
          rw [← hy6, HNX.out]
          exact HO.out.grows (show Grows y.now x8.now from GG)
    · obtain rfl : E.length = k := by omega
      go_wp2_with fail
      rw [← HS1.out]
      go_ret
      exact ⟨B2, e2, rfl, HO.out.rd, y1.grows.trans y.grows⟩
end Go.Proofs.YtomednfddpggaaaGreat
