/- Contracts: the top; what is taken out. -/
import Derived.Deep.DeepCutAuto
import Derived.Lib.SliceRun
import Derived.Test.YtgplpgldhoelcaaGreatQYenWays01
import Derived.Test.YtgplpgldhoelcaaGreatQYenWays03
import Derived.Test.YtgplpgldhoelcaaGreatQYenWays04
namespace Go.Proofs.YtgplpgldhoelcaaGreat
open Go Go.RowKit
theorem hpLen (b : Nat) (A : Option Addr) (n c : Nat) (u : Value) (w : World) (h : Arr w b 293 [.slice A n c, u]) : Calls Tryz.prog 261 #[.pointer (some ⟨b, 0, none⟩)] w fun e w' => e = .returned (.int .i64 (n : Int)) ∧ w = w' := by
  go_enter Tryz.func261, Tryz.ntmps261
  go_wp2
  go_ret
  exact ⟨rfl, rfl⟩
theorem hpWhere (b : Nat) (A : Option Addr) (n c G N v : Nat) (T : List Int) (w : World) (h : Arr w b 293 [.slice A n c, .slice (some ⟨G, 0, none⟩) N N]) (ht : Row1 w G 3 1 N N (T.map (.int .i64))) (hv : v < N) :
    Calls Tryz.prog 270 #[.pointer (some ⟨b, 0, none⟩), .int .i64 (v : Int)] w fun e w' => e = .returned (.int .i64 (gz T v)) ∧ w = w' := by
  have m0 : Mine w ⟨G, v, none⟩ (.int .i64 (gz T v)) := ht.int hv
  clear ht
  go_enter Tryz.func270, Tryz.ntmps270
  go_wp2
  go_ret
  exact ⟨rfl, rfl⟩
theorem Own.cut {w : World} {B n c m size : Nat} {e : TypeId} {A : Option Addr} {xs : List Value} (h : Own w B e size A n c xs) (hm : m ≤ n) (hn : 0 < n) : Own w B e size A m c (xs.take (m * size)) := by
  obtain ⟨g, cur, rfl, hB, hh, hc, hs, ht⟩ := h.at_ hn
  have hl := h.len
  have hmm : m * size ≤ n * size := Nat.mul_le_mul_right _ hm
  have hcm : c ≤ maxLen := by
    rcases h.2 with ⟨h1, _⟩ | ⟨g2, cap, cur2, h1, _, _, _, h5, _⟩
    · cases h1
    · injection h1 with _ _ h7; subst h7; exact h5
  refine ⟨by rw [List.length_take]; omega, .inr ⟨g, c, cur, rfl, hB, hh, by omega, hcm, hs, ?_⟩⟩
  rw [← ht, List.take_take]
  congr 1
  omega
theorem its_take (L : List Itm) (m : Nat) : its (L.take m) = (its L).take (m * 2) := by
  induction L generalizing m with
  | nil => simp [its]
  | cons x L ih =>
    cases m with
    | zero => simp [its]
    | succ m =>
      have := ih m
      show itCells x ++ its (L.take m) = (itCells x ++ its L).take ((m + 1) * 2)
      have e1 : List.take ((m + 1) * 2) (itCells x) = itCells x := List.take_of_length_le (by show 2 ≤ _; omega)
      have e2 : (m + 1) * 2 - (itCells x).length = m * 2 := by show (m + 1) * 2 - 2 = _; omega
      rw [this, List.take_append, e1, e2]
theorem drop_mid {w Wp : World} {S : Nat → Prop} {b c G v last : Nat} {A : Option Addr} {s : HS} (r1 : Arr w b 293 [.slice A s.L.length c, .slice (some ⟨G, 0, none⟩) s.T.length s.T.length]) (r2 : Own w 0 320 2 A s.L.length c (its s.L))
    (r3 : Row1 w G 3 1 s.T.length s.T.length (s.T.map (.int .i64))) (s1 : S b) (s2 : S G) (h6 : ∀ p, A = some p → S p.block) (hg : Grows (w.setCell ⟨G, v, none⟩ (.int .i64 (-1))) Wp) (hl : last ≤ s.L.length) (h0 : 0 < s.L.length) :
    HpAt (Wp.setCell ⟨b, 0, none⟩ (.slice A last c)) S b ⟨s.L.take last, s.T.set v (-1)⟩ ∧ Touch S w (Wp.setCell ⟨b, 0, none⟩ (.slice A last c)) ∧ Arr Wp b 293 [.slice A s.L.length c, .slice (some ⟨G, 0, none⟩) s.T.length s.T.length] := by
  have n2 := r3.ne r1 (by decide)
  have nb := r2.not_row r3 (by decide)
  have q1 := ((r1.other (p := ⟨G, v, none⟩) n2 (.int .i64 (-1))).grow hg)
  have q2 := ((r2.othr (q := ⟨G, v, none⟩) nb (.int .i64 (-1))).grows hg)
  have q3 := ((r3.set v (.int .i64 (-1))).grow hg)
  have e1 : (s.L.take last).length = last := by simp; omega
  refine ⟨⟨A, c, G, ?_, ?_, ?_, s1, s2, h6⟩, ?_, q1⟩
  · have := q1.set 0 (.slice A last c)
    show Arr _ _ _ [.slice A (s.L.take last).length c, .slice (some ⟨G, 0, none⟩) (s.T.set v (-1)).length (s.T.set v (-1)).length]
    rw [e1, List.length_set]
    exact this
  · have := (q2.cut hl h0).othr (q := ⟨b, 0, none⟩) ((q2.cut hl h0).not_arr q1 (by decide)) (.slice A last c)
    show Own _ _ _ _ _ (s.L.take last).length _ (its (s.L.take last))
    rw [e1, its_take]
    exact this
  · have := q3.other (p := ⟨b, 0, none⟩) (Ne.symm n2) (.slice A last c)
    show Row1 _ _ _ _ (s.T.set v (-1)).length (s.T.set v (-1)).length _
    rw [List.length_set, List.map_set]
    exact this
  · exact ((((Touch.refl S w).set (.inl s2) _).grows hg)).set (.inl s1) _
theorem drop_in {s : HS} {N last : Nat} (h : s.In N) (v : Nat) : (⟨s.L.take last, s.T.set v (-1)⟩ : HS).In N := by
  refine ⟨by simp [h.1], fun i hi => ?_⟩
  simp at hi
  unfold gi2
  rw [List.getD_eq_getElem?_getD, List.getElem?_take, if_pos (by omega), ← List.getD_eq_getElem?_getD]
  exact h.2 i (by omega)
set_option maxRecDepth 20000 in
set_option maxHeartbeats 4000000 in
theorem hpDrop (b N : Nat) (s : HS) (v i : Nat) (S : Nat → Prop) (w : World) (h : HpAt w S b s) (hs : ∀ k, S k → k < w.heap.size) (hin : s.In N) (hv : v < N) (hz : gz s.T v = (i : Int)) (hi : i < s.L.length) (hl : s.L.length ≤ 90000) :
    Calls Tryz.prog 256 #[.pointer (some ⟨b, 0, none⟩), .int .i64 (v : Int)] w fun e w' => e = .returned (.bool true) ∧ HpAt w' S b (s.drop v) ∧ Touch S w w' := by
  have hbx : ¬ S w.heap.size := fun e => by have := hs _ e; omega
  obtain ⟨A, c, G, r1, r2, r3, r4, r5, r6⟩ := h
  have hT := hin.1
  have m0 : Mine w ⟨G, v, none⟩ (.int .i64 (gz s.T v)) := r3.int (by omega)
  rw [hz] at m0
  have hvT : v < s.T.length := by omega
  have HW := hide (fun W => hpWhere b A s.L.length c G s.T.length v s.T W)
  rw [hz] at HW
  obtain ⟨n, hn⟩ : ∃ n, s.L.length = n + 1 := ⟨s.L.length - 1, by omega⟩
  obtain ⟨g, rfl, m1, m2⟩ := r2.item (i := n) (by omega)
  have HD : Hid (s.drop v = if i = n then ⟨s.L.take n, s.T.set v (-1)⟩ else if gz ((⟨s.L.take n, s.T.set v (-1)⟩ : HS).sink i (gi2 s.L n)).T (gi2 s.L n).1 = (i : Int) then ((⟨s.L.take n, s.T.set v (-1)⟩ : HS).sink i (gi2 s.L n)).rise i (gi2 s.L n) else (⟨s.L.take n, s.T.set v (-1)⟩ : HS).sink i (gi2 s.L n)) := by
    show _ = _
    unfold HS.drop
    rw [hz, hn, Nat.add_sub_cancel, Int.toNat_natCast]
  have hcap : n + 1 ≤ c := by
    obtain ⟨_, _, _, _, _, hc, _⟩ := r2.at_ (by omega)
    omega
  have hb0 : ((i : Int) == -1) = false := beq_eq_false_iff_ne.2 (by omega)
  have n1 := r3.ne r1 (by decide)
  have n3 := r2.not_row r3 (by decide) _ rfl
  have hgG : ¬ G = g := fun e => n3 e.symm
  have HIN := hide hin
  have HI2 : Hid ((⟨s.L.take n, s.T.set v (-1)⟩ : HS).In N) := drop_in hin v
  have HSS := hide hs
  have hxN : (gi2 s.L n).1 < N := hin.2 n (by omega)
  have hiB : i ≤ 90000 := by omega
  have hin1 : i ≤ n := by omega
  have hin0 : 0 < s.L.length := by omega
  have hnl : n ≤ s.L.length := by omega
  have HWW := hide (HW.out w r1 r3 hvT)
  have HMID := hide (fun (Wp : World) (hg : Grows (w.setCell ⟨G, v, none⟩ (.int .i64 (-1))) Wp) => drop_mid (S := S) (v := v) (last := n) r1 r2 r3 r4 r5 r6 hg hnl hin0)
  have p1 := r1.other (p := ⟨G, v, none⟩) n1 (.int .i64 (-1))
  have p2 := m1.set_other (q := ⟨G, v, none⟩) (.int .i64 (-1)) (by intro e; injection e with e; exact hgG e)
  have p3 := m2.set_other (q := ⟨G, v, none⟩) (.int .i64 (-1)) (by intro e; injection e with e; exact hgG e)
  have HN := hide hn
  rw [hn] at p1 hi hl
  have R1 := hide r1
  clear hin hs hz r2 r3 r6 HW hT hn hin0 hnl m1 m2 n1 n3
  by_cases hin2 : i = n
  · subst hin2
    rw [if_pos rfl] at HD
    go_enter Tryz.func256, Tryz.ntmps256
    go_wp2_with (go_at_call 270; refine (HWW.out).mono ?_; rintro e w' ⟨rfl, rfl⟩)
    go_ret
    have hm := HMID.out _ ((Grows.refl (w.setCell ⟨G, v, none⟩ (.int .i64 (-1)))).new (.cells #[.int .i64 ((gi2 s.L i).1 : Int), .int .u64 ((gi2 s.L i).2 : Int)] 320))
    exact ⟨rfl, HD.out ▸ hm.1, hm.2.1⟩
  · rw [if_neg hin2] at HD
    have hb1 : ((i : Int) == (n : Int)) = false := beq_eq_false_iff_ne.2 (by omega)
    have hb2 : (i == n) = false := beq_eq_false_iff_ne.2 hin2
    have hbz : w.heap.size ≠ b := fun e => hbx (e ▸ r4)
    go_enter Tryz.func256, Tryz.ntmps256
    go_upto_region 10 with (go_at_call 270; refine (HWW.out).mono ?_; rintro e w' ⟨rfl, rfl⟩)
    have hm := HMID.out _ ((Grows.refl (w.setCell ⟨G, v, none⟩ (.int .i64 (-1)))).new (.cells #[.int .i64 ((gi2 s.L n).1 : Int), .int .u64 ((gi2 s.L n).2 : Int)] 320))
    have q5 : Arr (((w.setCell ⟨G, v, none⟩ (.int .i64 (-1))).alloc (.cells #[.int .i64 ((gi2 s.L n).1 : Int), .int .u64 ((gi2 s.L n).2 : Int)] 320)).setCell ⟨b, 0, none⟩ (.slice (some ⟨g, 0, none⟩) n c)) w.heap.size 320 [.int .i64 ((gi2 s.L n).1 : Int), .int .u64 ((gi2 s.L n).2 : Int)] :=
      Arr.other (by
        have h := Arr.make (w.setCell ⟨G, v, none⟩ (.int .i64 (-1))) [Value.int .i64 ((gi2 s.L n).1 : Int), .int .u64 ((gi2 s.L n).2 : Int)] 320
        rw [size_setCell] at h
        exact h) (Ne.symm hbz) _
    generalize ((w.setCell ⟨G, v, none⟩ (.int .i64 (-1))).alloc (.cells #[.int .i64 ((gi2 s.L n).1 : Int), .int .u64 ((gi2 s.L n).2 : Int)] 320)).setCell ⟨b, 0, none⟩ (.slice (some ⟨g, 0, none⟩) n c) = W3 at *
    obtain ⟨e1, e2, _⟩ := hm
    have hin3 : i < (⟨s.L.take n, s.T.set v (-1)⟩ : HS).L.length := by have := HN.out; simp; omega
    have hln : (⟨s.L.take n, s.T.set v (-1)⟩ : HS).L.length ≤ 90000 := by simp; omega
    generalize (⟨s.L.take n, s.T.set v (-1)⟩ : HS) = s1 at *
    have HT2 := hide e2
    have HS1 := hide (HS.sink_in HI2.out i (gi2 s.L n) hxN)
    have HSK := hide (fun (W : World) (hg : Grows W3 W) => hpSink b N s1 i (gi2 s.L n) S W (e1.grow hg) (fun k hk => Nat.lt_of_lt_of_le (HSS.out k hk) (Nat.le_trans HT2.out.size hg.size)) HI2.out hin3 hxN (by omega))
    generalize gi2 s.L n = x at *
    unfold itVal at HSK
    obtain ⟨x1, x2⟩ := x
    dsimp only at *
    clear e1 e2 m0 p1 p2 p3 r1 hin2 hb1 hb2
    have HL1 := hide hin3
    clear hin3
    go_wp2_with (go_at_call 271; refine (HSK.out _ GG).mono ?_; rintro e w4 ⟨rfl, hp, ht⟩; have q6 := q5.touch ht hbx; have HP4 := hide hp; have HT4 := hide ht; clear hp ht)
    have hi2 := HS1.out
    generalize s1.sink i (x1, x2) = s2 at *
    obtain ⟨hi3, hi4⟩ := hi2
    obtain ⟨A', c', G', t1, t2, t3, t4, t5, t6⟩ := HP4.out
    have mm : Mine w4 ⟨G', x1, none⟩ (.int .i64 (gz s2.T x1)) := t3.int (by rw [hi3.1]; exact hxN)
    have HRI := hide (fun (W : World) (hg : Grows w4 W) => hpRise b N s2 i (x1, x2) S W (HP4.out.grow hg) (fun k hk => Nat.lt_of_lt_of_le (HSS.out k hk) (Nat.le_trans HT2.out.size (Nat.le_trans HT4.out.size hg.size))) hi3 (by rw [hi4]; exact HL1.out) hxN (by omega))
    unfold itVal at HRI
    dsimp only at HRI
    have hx1 : x1 < s2.T.length := by rw [hi3.1]; exact hxN
    clear hi3 hi4 t2 t3 t6
    generalize gz s2.T x1 = z at *
    by_cases hzi : z = (i : Int)
    · subst hzi
      rw [if_pos rfl] at HD
      ((first | refine wp_region_gen2 (by kernel_rfl) (by kernel_rfl) ?_ | refine wp_region_gen (by kernel_rfl) (by kernel_rfl) ?_); (repeat' (first | (refine gLex_val0 rfl (by kernel_rfl) (fun K hK => ?_); (go_simp; (try (simp only [↓IntWalk.iteOmega]; try go_simp)); (try simp (disch := omega) only [IntWalk.i64_in]); (try simp (disch := omega) only [IntWalk.u64_in]); first | (refine hK _ ?_; clear hK K) | (apply Exists.intro; refine ⟨fun x => ?_, hK _ ?_⟩; (first | fail); clear hK K))) | (refine gLex_undef rfl rfl rfl (by kernel_rfl) (fun K hK => ?_); go_simp; refine hK _ ?_; clear hK K) | (refine gLex_ask rfl rfl rfl ?_; first | (apply gAsk_yes; kernel_rfl; intro K hK; (go_simp; (try (simp only [↓IntWalk.iteOmega]; try go_simp)); (try simp (disch := omega) only [IntWalk.i64_in]); (try simp (disch := omega) only [IntWalk.u64_in]); first | (refine hK _ ?_; clear hK K) | (apply Exists.intro; refine ⟨fun x => ?_, hK _ ?_⟩; (first | fail); clear hK K))) | ((first | apply gAsk_no1 | apply gAsk_no2); kernel_rfl; intro K hK; simp [go_sem]; refine hK _ ?_; clear hK K) | (apply gAsk_part; kernel_rfl; all_goals (intro h K hK; (try simp only [Bool.not_true] at h); (try simp only [Bool.not_false] at h); (try simp only [decide_eq_true_eq] at h); (try simp only [decide_eq_false_iff_not] at h); first | (exfalso; first | contradiction | omega) | (go_simp; (try (simp only [↓IntWalk.iteOmega]; try go_simp)); (try simp (disch := omega) only [IntWalk.i64_in]); (try simp (disch := omega) only [IntWalk.u64_in]); first | (refine hK _ ?_; clear hK K) | (apply Exists.intro; refine ⟨fun x => ?_, hK _ ?_⟩; (first | fail); clear hK K))))))); all_goals ((apply gLex_end); intro y))
      go_wp2_with (go_at_call 255; refine (HRI.out _ GG).mono ?_; rintro e w' ⟨rfl, hp, ht⟩; have HP5 := hide hp; have HT5 := hide ht; clear hp ht)
      have hgy : Grows w4 y.now := GG
      go_ret
      exact ⟨rfl, HD.out ▸ HP5.out, (HT2.out.trans ((HT4.out.grows hgy).trans HT5.out))⟩
    · rw [if_neg hzi] at HD
      have hb : (z == (i : Int)) = false := beq_eq_false_iff_ne.2 hzi
      clear hzi
      ((first | refine wp_region_gen2 (by kernel_rfl) (by kernel_rfl) ?_ | refine wp_region_gen (by kernel_rfl) (by kernel_rfl) ?_); (repeat' (first | (refine gLex_val0 rfl (by kernel_rfl) (fun K hK => ?_); (go_simp; (try (simp only [↓IntWalk.iteOmega]; try go_simp)); (try simp (disch := omega) only [IntWalk.i64_in]); (try simp (disch := omega) only [IntWalk.u64_in]); first | (refine hK _ ?_; clear hK K) | (apply Exists.intro; refine ⟨fun x => ?_, hK _ ?_⟩; (first | fail); clear hK K))) | (refine gLex_undef rfl rfl rfl (by kernel_rfl) (fun K hK => ?_); go_simp; refine hK _ ?_; clear hK K) | (refine gLex_ask rfl rfl rfl ?_; first | (apply gAsk_yes; kernel_rfl; intro K hK; (go_simp; (try (simp only [↓IntWalk.iteOmega]; try go_simp)); (try simp (disch := omega) only [IntWalk.i64_in]); (try simp (disch := omega) only [IntWalk.u64_in]); first | (refine hK _ ?_; clear hK K) | (apply Exists.intro; refine ⟨fun x => ?_, hK _ ?_⟩; (first | fail); clear hK K))) | ((first | apply gAsk_no1 | apply gAsk_no2); kernel_rfl; intro K hK; simp [go_sem]; refine hK _ ?_; clear hK K) | (apply gAsk_part; kernel_rfl; all_goals (intro h K hK; (try simp only [Bool.not_true] at h); (try simp only [Bool.not_false] at h); (try simp only [decide_eq_true_eq] at h); (try simp only [decide_eq_false_iff_not] at h); first | (exfalso; first | contradiction | omega) | (go_simp; (try (simp only [↓IntWalk.iteOmega]; try go_simp)); (try simp (disch := omega) only [IntWalk.i64_in]); (try simp (disch := omega) only [IntWalk.u64_in]); first | (refine hK _ ?_; clear hK K) | (apply Exists.intro; refine ⟨fun x => ?_, hK _ ?_⟩; (first | fail); clear hK K))))))); all_goals ((apply gLex_end); intro y))
      go_wp2_with fail
      have hgy : Grows w4 y.now := GG
      go_ret
      exact ⟨rfl, HD.out ▸ HP4.out.grow hgy, (HT2.out.trans (HT4.out.grows hgy))⟩
def GivePop (w : World) (S : Nat → Prop) (b : Nat) (s : HS) (e : Ending) (w' : World) : Prop :=
  e = .returned (.tuple #[.int .i64 ((gi2 s.L 0).1 : Int), .int .u64 ((gi2 s.L 0).2 : Int), .bool true]) ∧ HpAt w' S b (s.drop (gi2 s.L 0).1) ∧ Touch S w w'
set_option maxHeartbeats 2000000 in
theorem hpTopNo (b : Nat) (s : HS) (S : Nat → Prop) (w : World) (h : HpAt w S b s) (h0 : s.L.length = 0) :
    Calls Tryz.prog 244 #[.pointer (some ⟨b, 0, none⟩)] w fun e w' => e = .returned (.tuple #[.int .i64 0, .int .u64 0, .bool false]) ∧ Grows w w' := by
  obtain ⟨A, c, G, r1, r2, r3, r4, r5, r6⟩ := h
  rw [h0] at r1
  have C := hide (hpLen b A 0 c _ w r1)
  clear r2 r3 r6
  go_enter Tryz.func244, Tryz.ntmps244
  go_wp2_with (go_at_call 261; refine (C.out).mono ?_; rintro e w' ⟨rfl, rfl⟩)
  refine bodyPost_ret (v := .tuple #[.int .i64 0, .int .u64 0, .bool false]) (by simp [results, Tryz.results244, go_sem]) rfl ⟨rfl, GG⟩
set_option maxHeartbeats 2000000 in
theorem hpTop (b : Nat) (s : HS) (S : Nat → Prop) (w : World) (h : HpAt w S b s) (h0 : 0 < s.L.length) :
    Calls Tryz.prog 244 #[.pointer (some ⟨b, 0, none⟩)] w fun e w' => e = .returned (.tuple #[.int .i64 ((gi2 s.L 0).1 : Int), .int .u64 ((gi2 s.L 0).2 : Int), .bool true]) ∧ Grows w w' := by
  obtain ⟨A, c, G, r1, r2, r3, r4, r5, r6⟩ := h
  obtain ⟨g, rfl, m1, m2⟩ := r2.item h0
  rw [Nat.zero_mul] at m1 m2
  have C := hide (hpLen b (some ⟨g, 0, none⟩) s.L.length c _ w r1)
  have hb : ((s.L.length : Int) == 0) = false := beq_eq_false_iff_ne.2 (by omega)
  clear r2 r3 r6
  generalize gi2 s.L 0 = q at *
  obtain ⟨q1, q2⟩ := q
  dsimp only at *
  go_enter Tryz.func244, Tryz.ntmps244
  go_wp2_with (go_at_call 261; refine (C.out).mono ?_; rintro e w' ⟨rfl, rfl⟩)
  ((first | refine wp_region_gen2 (by kernel_rfl) (by kernel_rfl) ?_ | refine wp_region_gen (by kernel_rfl) (by kernel_rfl) ?_); (repeat' (first | (refine gLex_val0 rfl (by kernel_rfl) (fun K hK => ?_); (go_simp; (try (simp only [↓IntWalk.iteOmega]; try go_simp)); (try simp (disch := omega) only [IntWalk.i64_in]); (try simp (disch := omega) only [IntWalk.u64_in]); first | (refine hK _ ?_; clear hK K) | (apply Exists.intro; refine ⟨fun x => ?_, hK _ ?_⟩; (first | fail); clear hK K))) | (refine gLex_undef rfl rfl rfl (by kernel_rfl) (fun K hK => ?_); go_simp; refine hK _ ?_; clear hK K) | (refine gLex_ask rfl rfl rfl ?_; first | (apply gAsk_yes; kernel_rfl; intro K hK; (go_simp; (try (simp only [↓IntWalk.iteOmega]; try go_simp)); (try simp (disch := omega) only [IntWalk.i64_in]); (try simp (disch := omega) only [IntWalk.u64_in]); first | (refine hK _ ?_; clear hK K) | (apply Exists.intro; refine ⟨fun x => ?_, hK _ ?_⟩; (first | fail); clear hK K))) | ((first | apply gAsk_no1 | apply gAsk_no2); kernel_rfl; intro K hK; simp [go_sem]; refine hK _ ?_; clear hK K) | (apply gAsk_part; kernel_rfl; all_goals (intro h K hK; (try simp only [Bool.not_true] at h); (try simp only [Bool.not_false] at h); (try simp only [decide_eq_true_eq] at h); (try simp only [decide_eq_false_iff_not] at h); first | (exfalso; first | contradiction | omega) | (go_simp; (try (simp only [↓IntWalk.iteOmega]; try go_simp)); (try simp (disch := omega) only [IntWalk.i64_in]); (try simp (disch := omega) only [IntWalk.u64_in]); first | (refine hK _ ?_; clear hK K) | (apply Exists.intro; refine ⟨fun x => ?_, hK _ ?_⟩; (first | fail); clear hK K))))))); all_goals ((apply gLex_end); intro y))
  go_wp2_with fail
  refine bodyPost_ret (v := .tuple #[.int .i64 (q1 : Int), .int .u64 (q2 : Int), .bool true]) (by simp [results, Tryz.results244, go_sem]) rfl ⟨rfl, GG⟩
set_option maxHeartbeats 2000000 in
theorem hpPopNo (b : Nat) (s : HS) (S : Nat → Prop) (w : World) (h : HpAt w S b s) (h0 : s.L.length = 0) :
    Calls Tryz.prog 237 #[.pointer (some ⟨b, 0, none⟩)] w fun e w' => e = .returned (.tuple #[.int .i64 0, .int .u64 0, .bool false]) ∧ Grows w w' := by
  have C := hide (hpTopNo b s S w h h0)
  clear h
  go_enter Tryz.func237, Tryz.ntmps237
  go_wp2_with (go_at_call 244; refine (C.out).mono ?_; rintro e w' ⟨rfl, hg⟩; obtain ⟨y, rfl⟩ := hg.later; clear hg)
  refine bodyPost_ret (v := .tuple #[.int .i64 0, .int .u64 0, .bool false]) (by simp [results, Tryz.results237, go_sem]) rfl ⟨rfl, GG⟩
set_option maxHeartbeats 2000000 in
theorem hpPop (b N : Nat) (s : HS) (S : Nat → Prop) (i : Nat) (w : World) (h : HpAt w S b s) (hs : ∀ k, S k → k < w.heap.size) (hin : s.In N) (h0 : 0 < s.L.length) (hz : gz s.T (gi2 s.L 0).1 = (i : Int)) (hi : i < s.L.length) (hl : s.L.length ≤ 90000) :
    Calls Tryz.prog 237 #[.pointer (some ⟨b, 0, none⟩)] w (GivePop w S b s) := by
  unfold GivePop
  have C := hide (hpTop b s S w h h0)
  have D := hide (fun (W : World) (hg : Grows w W) => hpDrop b N s (gi2 s.L 0).1 i S W (h.grow hg) (fun k hk => Nat.lt_of_lt_of_le (hs k hk) hg.size) hin (hin.2 0 h0) hz hi hl)
  clear h hs hin hz
  generalize gi2 s.L 0 = q at *
  obtain ⟨q1, q2⟩ := q
  dsimp only at *
  go_enter Tryz.func237, Tryz.ntmps237
  go_wp2_with (first
    | (go_at_call 244; refine (C.out).mono ?_; rintro e w' ⟨rfl, hg⟩; obtain ⟨y, rfl⟩ := hg.later; clear hg)
    | (go_at_call 256; refine (D.out _ GG).mono ?_; rintro e w' ⟨rfl, hp, ht⟩; have HP := hide hp; have HT := hide ht; clear hp ht))
  have hgy : Grows w y.now := y.grows
  exact bodyPost_ret (v := .tuple #[.int .i64 (q1 : Int), .int .u64 (q2 : Int), .bool true]) (by simp [results, Tryz.results237, go_sem]) rfl ⟨rfl, HP.out, (hgy.touch S).trans HT.out⟩
end Go.Proofs.YtgplpgldhoelcaaGreat

namespace Go.Proofs.YtgplpgldhoelcaaGreat
open Go Go.RowKit
theorem run_makeU64s (n : Nat) (hn : n ≤ 1000000000) (w : World) : (Instr.makeSlice 82 (.int .i64 (n : Int)) (.int .i64 (n : Int))).run Tryz.prog w = .ok (.slice (some ⟨w.heap.size, 0, none⟩) n n) (w.alloc (.cells (List.replicate n (Value.int .u64 0)).toArray 41)) := by
  obtain ⟨i, h1, h2, h3, h4⟩ := elemU64.info
  have := run_make_row (P := Tryz.prog) 82 41 i (.int .u64 0) Tryz.underlying82 h1 h2 h3 rfl .i64 .i64 n (by have := Nat.mul_le_mul h4 hn; omega) (by omega) w
  have e : madeCells #[Value.int .u64 0] n = (List.replicate n (Value.int .u64 0)).toArray := Array.ext' (by rw [toList_madeCells_one])
  rw [e] at this
  exact this
theorem scs_rep (n : Nat) : ∀ k, k < n * 2 → (scs (List.replicate n (0, 0)))[k]? = some (.int .u64 0) := by
  intro k hk
  have e : k = k / 2 * 2 + k % 2 := (Nat.div_add_mod' k 2).symm
  have h := scs_at (List.replicate n (0, 0)) (k / 2) (k % 2) (by simp; omega) (Nat.mod_lt _ (by omega))
  rw [← e] at h
  rw [h]
  have hg : gp (List.replicate n (0, 0)) (k / 2) = (0, 0) := by
    unfold gp
    rw [List.getD_eq_getElem?_getD, List.getElem?_replicate]
    split <;> rfl
  rw [hg]
  rcases (by omega : k % 2 = 0 ∨ k % 2 = 1) with e | e <;> rw [e] <;> rfl
theorem made_two (n : Nat) : madeCells #[Value.int .u64 0, .int .u64 0] (n * 2) = (scs (List.replicate n (0, 0))).toArray := by
  apply Array.ext'
  apply List.ext_getElem?
  intro k
  by_cases hk : k < n * 2
  · rw [scs_rep n k hk]
    rcases (by omega : k % 2 = 0 ∨ k % 2 = 1) with e | e <;> simp [madeCells, hk, e]
  · rw [List.getElem?_eq_none (by simp [madeCells]; omega), List.getElem?_eq_none (by rw [scs_len]; simp; omega)]
theorem run_makeSt (n : Nat) (hn : n ≤ 1000000000) (w : World) : (Instr.makeSlice 288 (.int .i64 (n : Int)) (.int .i64 (n : Int))).run Tryz.prog w = .ok (.slice (some ⟨w.heap.size, 0, none⟩) n n) (w.alloc (.cells (scs (List.replicate n (0, 0))).toArray 331)) := by
  have h : (Tryz.prog.info? 331).map (fun i => (i.zero, i.size, i.bytes)) = some (some (.agg #[.int .u64 0, .int .u64 0]), 2, 16) := by kernel_rfl
  obtain ⟨i, hi, hz, hs, hb⟩ := info_parts h
  have := run_make (P := Tryz.prog) w 288 331 i _ Tryz.underlying288 hi hz .i64 .i64 (n : Int) (n : Int) (by omega) (Int.le_refl _) (by rw [hb]; omega) (by omega)
  rw [Int.toNat_natCast, hs] at this
  rw [this, ← made_two n]
  rfl
set_option maxHeartbeats 1000000 in
theorem stNew (n : Nat) (w : World) (hn : n ≤ 65536) : Calls Tryz.prog 199 #[.int .i64 (n : Int)] w fun e w' => ∃ b g, e = .returned (.pointer (some ⟨b, 0, none⟩)) ∧ StL w' b g (List.replicate n (0, 0)) 0 ∧ w.heap.size ≤ b ∧ b < w'.heap.size ∧ w.heap.size ≤ g ∧ g < w'.heap.size ∧ Grows w w' := by
  have mk := run_makeSt n (by omega)
  go_enter Tryz.func199, Tryz.ntmps199
  go_wp2_with fail
  go_ret
  refine ⟨w.heap.size + 1, w.heap.size, rfl, ⟨⟨?_⟩, Row1.grow (Arr.row (Arr.make _ _ _) (by simp [scs_len]) (by simp; omega)) ((Grows.refl _).new _)⟩, by omega, by simp, by omega, by simp; omega, GG⟩
  simp [heap_push, Array.getElem_push]
set_option maxHeartbeats 1000000 in
theorem bitsNew (n : Nat) (w : World) (hn : n ≤ 65536) : Calls Tryz.prog 232 #[.int .i64 (n : Int)] w fun e w' => ∃ b g, e = .returned (.pointer (some ⟨b, 0, none⟩)) ∧ BtAt w' b g n (List.replicate ((n + 63) / 64) 0) ∧ w.heap.size ≤ b ∧ b < w'.heap.size ∧ w.heap.size ≤ g ∧ g < w'.heap.size ∧ Grows w w' := by
  obtain ⟨q, hq⟩ : ∃ q, (n + 63) / 64 = q := ⟨_, rfl⟩
  have hqi : ((n : Int) + 63) / 64 = (q : Int) := by omega
  have hqi2 : ((n : Int) + 64 - 1) / 64 = (q : Int) := by omega
  have hqb : q ≤ 65536 := by omega
  have hroom : n ≤ q * 64 := by omega
  have mk := run_makeU64s q (by omega)
  have HQ := hide hq
  clear hq
  go_enter Tryz.func232, Tryz.ntmps232
  go_wp2_with fail
  go_ret
  rw [HQ.out]
  have e0 : wv (List.replicate q 0) = List.replicate q (Value.int .u64 0) := by simp [wv]
  have e1 : (List.replicate q 0).length = q := List.length_replicate
  refine ⟨w.heap.size + 1, w.heap.size, rfl, ⟨⟨?_⟩, ?_, by rw [e1]; exact hroom, fun j hj => ?_⟩, by omega, by simp, by omega, by simp; omega, GG⟩
  · simp [heap_push, Array.getElem_push]
  · rw [e1, e0]
    have h : Arr (w.alloc (.cells (List.replicate q (Value.int .u64 0)).toArray 41)) w.heap.size 41 (List.replicate q (Value.int .u64 0)) := Arr.make _ _ _
    have := h.row (n := q) (size := 1) (by simp) (by omega)
    simp only [List.toArray_replicate] at this
    exact this.grow ((Grows.refl _).new _)
  · rw [gn_rep]; omega
theorem hasW_rep (q j : Nat) : hasW (List.replicate q 0) j = false := by unfold hasW; rw [gn_rep]; simp
def OfAt (w : World) (b g n : Nat) (l : List Int) (k : Nat) (wr : World) : Prop :=
  ∃ y : Later w, wr = y.now ∧ ∃ W, BtAt y.now b g n W ∧ ∀ j, j < n → hasW W j = decide ((j : Int) ∈ l.take k)
set_option maxRecDepth 20000 in
set_option maxHeartbeats 2000000 in
theorem bitsOf (n : Nat) (A : Option Addr) (m c : Nat) (l : List Int) (w : World) (h : Rd w A 1 m (l.map (.int .i64))) (hn : n ≤ 65536) (hm : m ≤ 1000000) :
    Calls Tryz.prog 198 #[.int .i64 (n : Int), .slice A m c] w fun e w' => ∃ b g W, e = .returned (.pointer (some ⟨b, 0, none⟩)) ∧ BtAt w' b g n W ∧ (∀ j, j < n → hasW W j = decide ((j : Int) ∈ l)) ∧ w.heap.size ≤ b ∧ b < w'.heap.size ∧ w.heap.size ≤ g ∧ g < w'.heap.size ∧ Grows w w' := by
  have hl : l.length = m := by simpa using h.len
  have HL := hide hl
  have HR := hide h
  have C := hide (fun (W : World) => bitsNew n W hn)
  clear h hl
  go_enter Tryz.func198, Tryz.ntmps198
  go_wp2_with (go_at_call 232; refine (C.out _).mono ?_; rintro e w' ⟨b, g, rfl, hb, h1, h2, h3, h4, hg⟩; obtain ⟨x, rfl⟩ := hg.later; have HB := hide hb; have HG := hide hg; clear hb hg)
  have H0 : Hid (OfAt w b g n l 0 x.now) := ⟨x, rfl, _, HB.out, fun j hj => by rw [hasW_rep]; simp⟩
  clear HB
  go_loopw [15] (fun s wr => ∃ k : Nat, k ≤ m ∧ s = .int .i64 (k : Int) ∧ OfAt w b g n l k wr) (fun s _ => m - (Go.RowKit.intOf s).toNat)
  case atStart => exact ⟨0, by omega, by go_num, H0.out⟩
  case round =>
    obtain ⟨k, hk, rfl, y, rfl, W, hb, hW⟩ := hrel
    have HW := hide hW
    have HB := hide hb
    clear hW hb H0
    by_cases hlt : k < m
    · obtain ⟨bb, off, rfl, hc⟩ := HR.out.intsH (by omega)
      have c1 := hc k hlt
      have CA := hide (fun (W1 : World) (hg : Grows y.now W1) => bitsAdd b g n W (gi l k) W1 (HB.out.grow hg) hn)
      have HGI : Hid (l.take (k + 1) = l.take k ++ [gi l k]) := by
        have hkl : k < l.length := by rw [HL.out]; exact hlt
        show _ = _
        rw [List.take_succ_eq_append_getElem hkl]
        simp [gi, hkl]
      clear hc
      generalize gi l k = i at *
      go_wp2_with (go_at_call 233; refine (CA.out _ GG).mono ?_; rintro e w' ⟨r, W', rfl, hb', hW', ht⟩; have HB' := hide hb'; have HW' := hide hW'; have HT := hide ht; clear hb' hW' ht)
      have hl2 : Grows w w' := HT.out.later y.grows (fun k hk => by rw [hk]; exact h3)
      go_roundw
      case rel =>
        refine ⟨k + 1, by omega, by go_num, ⟨w', hl2⟩, rfl, W', HB'.out, fun j hj => ?_⟩
        rw [HW'.out j hj, HW.out j hj, HGI.out]
        apply bool_ext
        simp
      case measure => simp [Go.RowKit.intOf]; omega
    · have hkm : l.take k = l := List.take_of_length_le (by rw [HL.out]; omega)
      have HW2 := HW.out
      rw [hkm] at HW2
      have HWE := hide HW2
      clear HW2 hkm
      go_wp2_with fail
      go_ret
      have hsz : b < y.now.heap.size := HB.out.row.lt
      have hsg : g < y.now.heap.size := HB.out.words.lt
      exact ⟨b, g, W, rfl, HB.out, HWE.out, h1, hsz, h3, hsg, y.grows⟩
def NewHp (w : World) (b g n k : Nat) (wr : World) : Prop :=
  ∃ y : Later w, wr = y.now ∧ Arr y.now b 293 [.slice none 0 0, .slice (some ⟨g, 0, none⟩) n n] ∧ ∃ T : List Int, Row1 y.now g 3 1 n n (T.map (.int .i64)) ∧ ∀ j, j < k → gz T j = -1
set_option maxRecDepth 20000 in
set_option maxHeartbeats 2000000 in
theorem hpNew (n : Nat) (w : World) (hn : n ≤ 65536) : Calls Tryz.prog 200 #[.int .i64 (n : Int)] w fun e w' => ∃ b T, e = .returned (.pointer (some ⟨b, 0, none⟩)) ∧ HpAt w' (New w w') b ⟨[], T⟩ ∧ T.length = n ∧ (∀ j, j < n → gz T j = -1) ∧ w.heap.size ≤ b ∧ Grows w w' := by
  have mk := run_makeInts n (by omega)
  go_enter Tryz.func200, Tryz.ntmps200
  go_wp2_with fail
  have H0 : Hid (NewHp w (w.heap.size + 1) w.heap.size n 0 ((w.alloc (.cells (List.replicate n (Value.int .i64 0)).toArray 3)).alloc (.cells #[.slice none 0 0, .slice (some ⟨w.heap.size, 0, none⟩) n n] 293))) := by
    refine ⟨⟨_, ((Grows.refl w).new _).new _⟩, rfl, ⟨by simp [heap_push, Array.getElem_push]⟩, List.replicate n 0, ?_, fun j hj => absurd hj (by omega)⟩
    have h : Arr (w.alloc (.cells (List.replicate n (Value.int .i64 0)).toArray 3)) w.heap.size 3 (List.replicate n (Value.int .i64 0)) := Arr.make _ _ _
    have h2 := h.row (n := n) (size := 1) (by simp) (by omega)
    rw [List.map_replicate]
    exact h2.grow ((Grows.refl _).new _)
  simp only [List.toArray_replicate] at H0
  have hbb : w.heap.size ≤ w.heap.size + 1 := by omega
  generalize hb : w.heap.size + 1 = b at *
  go_loopw [20] (fun s wr => ∃ k : Nat, k ≤ n ∧ s = .int .i64 (k : Int) ∧ NewHp w b w.heap.size n k wr) (fun s _ => n - (Go.RowKit.intOf s).toNat)
  case atStart => exact ⟨0, by omega, by go_num, H0.out⟩
  case round =>
    obtain ⟨k, hk, rfl, y, rfl, ha, T, ht, hT⟩ := hrel
    have HT := hide hT
    have HR := hide ht
    have HA := hide ha
    clear hT ht H0
    by_cases hlt : k < n
    · have m0 := HR.out.int (j := k) hlt
      go_wp2_with fail
      go_roundw
      case rel =>
        refine ⟨k + 1, by omega, by go_num, ⟨_, y.grows.set (Nat.le_refl _) _⟩, rfl, HA.out.other (HR.out.ne HA.out (by decide)) _, T.set k (-1), ?_, fun j hj => ?_⟩
        · rw [List.map_set]; exact HR.out.set _ _
        · have hl := HR.out.len
          simp at hl
          unfold gz
          by_cases he : j = k
          · subst he; simp [show j < T.length by omega]
          · have := HT.out j (by omega)
            unfold gz at this
            rw [List.getD_eq_getElem?_getD, List.getElem?_set_ne (Ne.symm he), ← List.getD_eq_getElem?_getD]
            exact this
      case measure => simp [Go.RowKit.intOf]; omega
    · go_wp2_with fail
      go_ret
      have hl := HR.out.len
      simp at hl
      obtain rfl : k = n := by omega
      refine ⟨b, T, rfl, ⟨none, 0, w.heap.size, ?_, Own.nil _ _ _ _, ?_, ⟨hbb, HA.out.lt⟩, ⟨Nat.le_refl _, HR.out.lt⟩, fun p hp => by cases hp⟩, by omega, HT.out, hbb, y.grows⟩
      · show Arr _ _ _ [.slice none 0 0, .slice (some ⟨w.heap.size, 0, none⟩) T.length T.length]
        rw [show T.length = k by omega]
        exact HA.out
      · rw [show T.length = k by omega]
        exact HR.out
end Go.Proofs.YtgplpgldhoelcaaGreat

namespace Go.Proofs.YtgplpgldhoelcaaGreat
open Go Go.RowKit
set_option maxHeartbeats 400000 in
theorem r5node (N v : Int) (s : Value) (w : World) : Calls Tryz.prog 143 #[.agg #[.int .i64 N, s], .int .i64 v] w fun e w' => e = .returned (.bool (nodeB N v)) ∧ Grows w w' := by
  go_enter Tryz.func143, Tryz.ntmps143
  go_wp2
  all_goals go_ret
  all_goals exact ⟨ret_bool (bool_ext (by unfold nodeB; simp; try omega)), GG⟩

set_option maxHeartbeats 400000 in
theorem r5weight (x : Int) (w : World) : Calls Tryz.prog 144 #[.int .u64 x] w fun e w' => e = .returned (.bool (wtB x)) ∧ w = w' := by
  go_enter Tryz.func144, Tryz.ntmps144
  go_wp2
  all_goals go_ret
  all_goals exact ⟨ret_bool (bool_ext (by unfold wtB; simp; try omega)), rfl⟩

theorem any_false_iff {E : List Edg} {p : Edg → Bool} {n : Nat} (hl : E.length = n) (h : ∀ j, j < n → p (ge E j) = false) : E.any p = false := by
  rw [List.any_eq_false]
  intro e he
  obtain ⟨j, hj, rfl⟩ := List.mem_iff_getElem.1 he
  have := h j (by omega)
  simpa [ge, hj] using this
theorem any_true_at {E : List Edg} {p : Edg → Bool} {j : Nat} (hj : j < E.length) (h : p (ge E j) = true) : E.any p = true := by
  rw [List.any_eq_true]
  exact ⟨ge E j, by simp [ge, hj], h⟩

set_option maxRecDepth 20000 in
set_option maxHeartbeats 4000000 in
theorem r5Right (N : Int) (A : Option Addr) (n c : Nat) (E : List Edg) (w : World) (h : Rd w A 3 n (esCells E)) (hn : n ≤ 1000000) :
    Calls Tryz.prog 81 #[.agg #[.int .i64 N, .slice A n c]] w fun e w' => e = .returned (.int .i64 (rightF N E)) ∧ Grows w w' := by
  have HL := hide h.elen
  have HR := hide h
  clear h
  by_cases h1 : N < 1 ∨ 4096 < N
  · have HW : Hid (rightF N E = 2) := by unfold rightF; rw [if_pos h1]; rfl
    go_enter Tryz.func81, Tryz.ntmps81
    go_wp2
    all_goals go_ret
    all_goals exact ⟨ret_int HW.out.symm, GG⟩
  have h3 : 1 ≤ N := by omega
  have h4 : N ≤ 4096 := by omega
  by_cases h2 : 16384 < n
  · have HW : Hid (rightF N E = 5) := by unfold rightF; rw [if_neg h1, if_pos (by have := HL.out; omega)]; rfl
    clear h1
    go_enter Tryz.func81, Tryz.ntmps81
    go_wp2
    all_goals go_ret
    all_goals exact ⟨ret_int HW.out.symm, GG⟩
  have HN := hide (show ∀ x, rightF N E = x ↔ (if E.any (looseB N) then (7 : Int) else if E.any heavyB then 2 else 0) = x from fun x => by unfold rightF; rw [if_neg h1, if_neg (by have := HL.out; omega)])
  have HG0 := hide (HR.out.new (.cells #[.int .i64 N, .slice A n c] 35))
  clear h1
  go_enter Tryz.func81, Tryz.ntmps81
  go_wp2
  go_loopw [3] (fun i wr => ∃ k : Nat, k ≤ n ∧ i = .int .i64 (k : Int) ∧ (∃ x : Later (w.alloc (.cells #[.int .i64 N, .slice A n c] 35)), wr = x.now) ∧ ∀ j, j < k → looseB N (ge E j) = false) (fun i _ => n - (intOf i).toNat)
  case atStart => exact ⟨0, by omega, by go_num, ⟨⟨_, Grows.refl _⟩, rfl⟩, fun j h1 => by omega⟩
  case round =>
    obtain ⟨q, hq, rfl, ⟨x, rfl⟩, hall⟩ := hrel
    have HA := hide hall
    clear hall
    by_cases hend : n ≤ q
    · have HB := hide (any_false_iff HL.out fun j hj => HA.out j (by omega))
      have hd : decide (q < n) = false := by simp; omega
      go_wp2
      go_loopw [4] (fun i wr => ∃ k : Nat, k ≤ n ∧ i = .int .i64 (k : Int) ∧ (∃ x : Later (w.alloc (.cells #[.int .i64 N, .slice A n c] 35)), wr = x.now) ∧ ∀ j, j < k → heavyB (ge E j) = false) (fun i _ => n - (intOf i).toNat)
      case atStart => exact ⟨0, by omega, by go_num, ⟨_, rfl⟩, fun j h1 => by omega⟩
      case round =>
        obtain ⟨r, hr, rfl, ⟨y, rfl⟩, hall⟩ := hrel
        have HC := hide hall
        clear hall
        by_cases hend2 : n ≤ r
        · have HW : Hid (rightF N E = 0) := by
            have h := any_false_iff (p := heavyB) HL.out fun j hj => HC.out j (by omega)
            rw [show Hid (rightF N E = 0) = (rightF N E = 0) from rfl, HN.out, HB.out, h]; rfl
          go_wp2
          go_ret
          exact ⟨ret_int HW.out.symm, GG⟩
        · obtain ⟨b, off, rfl, hc⟩ := HG0.out.edges (by omega)
          obtain ⟨hc1, hc2, hc3⟩ := hc r (by omega)
          clear hc hc1 hc2
          cases hp : wtB (ge E r).w with
          | false =>
            have HW : Hid (rightF N E = 2) := by
              have h := any_true_at (p := heavyB) (E := E) (j := r) (by have := HL.out; omega) (by unfold heavyB; rw [hp]; rfl)
              rw [show Hid (rightF N E = 2) = (rightF N E = 2) from rfl, HN.out, HB.out, h]; rfl
            have C := fun W => r5weight (ge E r).w W
            rw [hp] at C
            have HD := hide C
            clear hp C
            go_wp2_with (first | (go_at_call 144; refine (HD.out _).mono ?_; rintro e w' ⟨rfl, rfl⟩))
            go_ret
            exact ⟨ret_int HW.out.symm, GG⟩
          | true =>
            have HP : Hid (heavyB (ge E r) = false) := by unfold heavyB; rw [hp]; rfl
            have C := fun W => r5weight (ge E r).w W
            rw [hp] at C
            have HD := hide C
            clear hp C
            go_wp2_with (first | (go_at_call 144; refine (HD.out _).mono ?_; rintro e w' ⟨rfl, rfl⟩))
            go_roundw
            case measure => simp [intOf]; omega
            case rel =>
              refine ⟨r + 1, by omega, by go_num, ⟨_, rfl⟩, fun j h1 => ?_⟩
              by_cases hj : j = r
              · rw [hj]; exact HP.out
              · exact HC.out j (by omega)
    · obtain ⟨b, off, rfl, hc⟩ := HG0.out.edges (by omega)
      obtain ⟨hc1, hc2, hc3⟩ := hc q (by omega)
      clear hc hc3
      have C1 := fun W => r5node N (ge E q).f (.slice (some ⟨b, off, none⟩) n c) W
      have C2 := fun W => r5node N (ge E q).t (.slice (some ⟨b, off, none⟩) n c) W
      have HLo := hide (show looseB N (ge E q) = (!nodeB N (ge E q).f || (!nodeB N (ge E q).t || decide ((ge E q).f = (ge E q).t))) from rfl)
      have HT : Hid (looseB N (ge E q) = true → rightF N E = 7) := fun h => by
        have h' := any_true_at (p := looseB N) (E := E) (j := q) (by have := HL.out; omega) h
        rw [HN.out, h']; rfl
      cases h1 : nodeB N (ge E q).f with
      | false =>
        rw [h1] at C1
        have HD := hide C1
        have HW := hide (HT.out (by rw [HLo.out, h1]; rfl))
        clear C1 C2 h1
        go_wp2_with fail
        ((first | refine wp_region_gen2 (by kernel_rfl) (by kernel_rfl) ?_ | refine wp_region_gen (by kernel_rfl) (by kernel_rfl) ?_); (repeat' (first | (refine gLex_val0 rfl (by kernel_rfl) (fun K hK => ?_); (go_simp; (try (simp only [↓IntWalk.iteOmega]; try go_simp)); (try simp (disch := omega) only [IntWalk.i64_in]); (try simp (disch := omega) only [IntWalk.u64_in]); first | (refine hK _ ?_; clear hK K) | (apply Exists.intro; refine ⟨fun x => ?_, hK _ ?_⟩; (first | (go_at_call 143; exact HD.out _)); clear hK K))) | (refine gLex_undef rfl rfl rfl (by kernel_rfl) (fun K hK => ?_); go_simp; refine hK _ ?_; clear hK K) | (refine gLex_ask rfl rfl rfl ?_; first | (apply gAsk_yes; kernel_rfl; intro K hK; (go_simp; (try (simp only [↓IntWalk.iteOmega]; try go_simp)); (try simp (disch := omega) only [IntWalk.i64_in]); (try simp (disch := omega) only [IntWalk.u64_in]); first | (refine hK _ ?_; clear hK K) | (apply Exists.intro; refine ⟨fun x => ?_, hK _ ?_⟩; (first | (go_at_call 143; exact HD.out _)); clear hK K))) | ((first | apply gAsk_no1 | apply gAsk_no2); kernel_rfl; intro K hK; simp [go_sem]; refine hK _ ?_; clear hK K) | (apply gAsk_part; kernel_rfl; all_goals (intro h K hK; (try simp only [Bool.not_true] at h); (try simp only [Bool.not_false] at h); (try simp only [decide_eq_true_eq] at h); (try simp only [decide_eq_false_iff_not] at h); first | (exfalso; first | contradiction | omega) | (go_simp; (try (simp only [↓IntWalk.iteOmega]; try go_simp)); (try simp (disch := omega) only [IntWalk.i64_in]); (try simp (disch := omega) only [IntWalk.u64_in]); first | (refine hK _ ?_; clear hK K) | (apply Exists.intro; refine ⟨fun x => ?_, hK _ ?_⟩; (first | (go_at_call 143; exact HD.out _)); clear hK K))))))); all_goals ((apply gLex_end); intro x))
        go_wp2
        go_ret
        exact ⟨ret_int HW.out.symm, GG⟩
      | true =>
        rw [h1] at C1
        have HD := hide C1
        clear C1
        cases h2 : nodeB N (ge E q).t with
        | false =>
          rw [h2] at C2
          have HE := hide C2
          have HW := hide (HT.out (by rw [HLo.out, h1, h2]; rfl))
          clear C2 h1 h2
          go_wp2_with fail
          ((first | refine wp_region_gen2 (by kernel_rfl) (by kernel_rfl) ?_ | refine wp_region_gen (by kernel_rfl) (by kernel_rfl) ?_); (repeat' (first | (refine gLex_val0 rfl (by kernel_rfl) (fun K hK => ?_); (go_simp; (try (simp only [↓IntWalk.iteOmega]; try go_simp)); (try simp (disch := omega) only [IntWalk.i64_in]); (try simp (disch := omega) only [IntWalk.u64_in]); first | (refine hK _ ?_; clear hK K) | (apply Exists.intro; refine ⟨fun x => ?_, hK _ ?_⟩; (first | (go_at_call_of 143 ((ge E q).f); exact HD.out _) | (go_at_call_of 143 ((ge E q).t); exact HE.out _)); clear hK K))) | (refine gLex_undef rfl rfl rfl (by kernel_rfl) (fun K hK => ?_); go_simp; refine hK _ ?_; clear hK K) | (refine gLex_ask rfl rfl rfl ?_; first | (apply gAsk_yes; kernel_rfl; intro K hK; (go_simp; (try (simp only [↓IntWalk.iteOmega]; try go_simp)); (try simp (disch := omega) only [IntWalk.i64_in]); (try simp (disch := omega) only [IntWalk.u64_in]); first | (refine hK _ ?_; clear hK K) | (apply Exists.intro; refine ⟨fun x => ?_, hK _ ?_⟩; (first | (go_at_call_of 143 ((ge E q).f); exact HD.out _) | (go_at_call_of 143 ((ge E q).t); exact HE.out _)); clear hK K))) | ((first | apply gAsk_no1 | apply gAsk_no2); kernel_rfl; intro K hK; simp [go_sem]; refine hK _ ?_; clear hK K) | (apply gAsk_part; kernel_rfl; all_goals (intro h K hK; (try simp only [Bool.not_true] at h); (try simp only [Bool.not_false] at h); (try simp only [decide_eq_true_eq] at h); (try simp only [decide_eq_false_iff_not] at h); first | (exfalso; first | contradiction | omega) | (go_simp; (try (simp only [↓IntWalk.iteOmega]; try go_simp)); (try simp (disch := omega) only [IntWalk.i64_in]); (try simp (disch := omega) only [IntWalk.u64_in]); first | (refine hK _ ?_; clear hK K) | (apply Exists.intro; refine ⟨fun x => ?_, hK _ ?_⟩; (first | (go_at_call_of 143 ((ge E q).f); exact HD.out _) | (go_at_call_of 143 ((ge E q).t); exact HE.out _)); clear hK K))))))); all_goals ((apply gLex_end); intro x))
          go_wp2
          go_ret
          exact ⟨ret_int HW.out.symm, GG⟩
        | true =>
          rw [h2] at C2
          have HE := hide C2
          by_cases h5 : (ge E q).f = (ge E q).t
          · have HW := hide (HT.out (by rw [HLo.out, h1, h2, decide_eq_true h5]; rfl))
            have h5' : ((ge E q).f == (ge E q).t) = true := by simpa using h5
            clear C2 h1 h2 h5
            go_wp2_with fail
            ((first | refine wp_region_gen2 (by kernel_rfl) (by kernel_rfl) ?_ | refine wp_region_gen (by kernel_rfl) (by kernel_rfl) ?_); (repeat' (first | (refine gLex_val0 rfl (by kernel_rfl) (fun K hK => ?_); (go_simp; (try (simp only [↓IntWalk.iteOmega]; try go_simp)); (try simp (disch := omega) only [IntWalk.i64_in]); (try simp (disch := omega) only [IntWalk.u64_in]); first | (refine hK _ ?_; clear hK K) | (apply Exists.intro; refine ⟨fun x => ?_, hK _ ?_⟩; (first | (go_at_call_of 143 ((ge E q).f); exact HD.out _) | (go_at_call_of 143 ((ge E q).t); exact HE.out _)); clear hK K))) | (refine gLex_undef rfl rfl rfl (by kernel_rfl) (fun K hK => ?_); go_simp; refine hK _ ?_; clear hK K) | (refine gLex_ask rfl rfl rfl ?_; first | (apply gAsk_yes; kernel_rfl; intro K hK; (go_simp; (try (simp only [↓IntWalk.iteOmega]; try go_simp)); (try simp (disch := omega) only [IntWalk.i64_in]); (try simp (disch := omega) only [IntWalk.u64_in]); first | (refine hK _ ?_; clear hK K) | (apply Exists.intro; refine ⟨fun x => ?_, hK _ ?_⟩; (first | (go_at_call_of 143 ((ge E q).f); exact HD.out _) | (go_at_call_of 143 ((ge E q).t); exact HE.out _)); clear hK K))) | ((first | apply gAsk_no1 | apply gAsk_no2); kernel_rfl; intro K hK; simp [go_sem]; refine hK _ ?_; clear hK K) | (apply gAsk_part; kernel_rfl; all_goals (intro h K hK; (try simp only [Bool.not_true] at h); (try simp only [Bool.not_false] at h); (try simp only [decide_eq_true_eq] at h); (try simp only [decide_eq_false_iff_not] at h); first | (exfalso; first | contradiction | omega) | (go_simp; (try (simp only [↓IntWalk.iteOmega]; try go_simp)); (try simp (disch := omega) only [IntWalk.i64_in]); (try simp (disch := omega) only [IntWalk.u64_in]); first | (refine hK _ ?_; clear hK K) | (apply Exists.intro; refine ⟨fun x => ?_, hK _ ?_⟩; (first | (go_at_call_of 143 ((ge E q).f); exact HD.out _) | (go_at_call_of 143 ((ge E q).t); exact HE.out _)); clear hK K))))))); all_goals ((apply gLex_end); intro x))
            go_wp2
            go_ret
            exact ⟨ret_int HW.out.symm, GG⟩
          · have HP : Hid (looseB N (ge E q) = false) := by rw [show Hid (looseB N (ge E q) = false) = (looseB N (ge E q) = false) from rfl, HLo.out, h1, h2, decide_eq_false h5]; rfl
            have h5' : ((ge E q).f == (ge E q).t) = false := by simpa using h5
            clear C2 h1 h2 h5
            go_wp2_with fail
            ((first | refine wp_region_gen2 (by kernel_rfl) (by kernel_rfl) ?_ | refine wp_region_gen (by kernel_rfl) (by kernel_rfl) ?_); (repeat' (first | (refine gLex_val0 rfl (by kernel_rfl) (fun K hK => ?_); (go_simp; (try (simp only [↓IntWalk.iteOmega]; try go_simp)); (try simp (disch := omega) only [IntWalk.i64_in]); (try simp (disch := omega) only [IntWalk.u64_in]); first | (refine hK _ ?_; clear hK K) | (apply Exists.intro; refine ⟨fun x => ?_, hK _ ?_⟩; (first | (go_at_call_of 143 ((ge E q).f); exact HD.out _) | (go_at_call_of 143 ((ge E q).t); exact HE.out _)); clear hK K))) | (refine gLex_undef rfl rfl rfl (by kernel_rfl) (fun K hK => ?_); go_simp; refine hK _ ?_; clear hK K) | (refine gLex_ask rfl rfl rfl ?_; first | (apply gAsk_yes; kernel_rfl; intro K hK; (go_simp; (try (simp only [↓IntWalk.iteOmega]; try go_simp)); (try simp (disch := omega) only [IntWalk.i64_in]); (try simp (disch := omega) only [IntWalk.u64_in]); first | (refine hK _ ?_; clear hK K) | (apply Exists.intro; refine ⟨fun x => ?_, hK _ ?_⟩; (first | (go_at_call_of 143 ((ge E q).f); exact HD.out _) | (go_at_call_of 143 ((ge E q).t); exact HE.out _)); clear hK K))) | ((first | apply gAsk_no1 | apply gAsk_no2); kernel_rfl; intro K hK; simp [go_sem]; refine hK _ ?_; clear hK K) | (apply gAsk_part; kernel_rfl; all_goals (intro h K hK; (try simp only [Bool.not_true] at h); (try simp only [Bool.not_false] at h); (try simp only [decide_eq_true_eq] at h); (try simp only [decide_eq_false_iff_not] at h); first | (exfalso; first | contradiction | omega) | (go_simp; (try (simp only [↓IntWalk.iteOmega]; try go_simp)); (try simp (disch := omega) only [IntWalk.i64_in]); (try simp (disch := omega) only [IntWalk.u64_in]); first | (refine hK _ ?_; clear hK K) | (apply Exists.intro; refine ⟨fun x => ?_, hK _ ?_⟩; (first | (go_at_call_of 143 ((ge E q).f); exact HD.out _) | (go_at_call_of 143 ((ge E q).t); exact HE.out _)); clear hK K))))))); all_goals ((apply gLex_end); intro x))
            go_wp2
            go_roundw
            case measure => simp [intOf]; omega
            case rel =>
              refine ⟨q + 1, by omega, by go_num, ⟨_, rfl⟩, fun j h1 => ?_⟩
              by_cases hj : j = q
              · rw [hj]; exact HP.out
              · exact HA.out j (by omega)

end Go.Proofs.YtgplpgldhoelcaaGreat

namespace Go.Proofs.YtgplpgldhoelcaaGreat
open Go Go.RowKit
theorem gi_mem {l : List Int} {j : Nat} (h : j < l.length) : gi l j ∈ l := by
  unfold gi
  rw [List.getD_eq_getElem?_getD, List.getElem?_eq_getElem h]
  exact List.getElem_mem h
theorem mem_gi {l : List Int} {x : Int} (h : x ∈ l) : ∃ j, j < l.length ∧ gi l j = x := by
  obtain ⟨j, hj, rfl⟩ := List.mem_iff_getElem.1 h
  exact ⟨j, hj, by simp [gi, hj]⟩

set_option maxRecDepth 20000 in
set_option maxHeartbeats 1000000 in
theorem indexI (A : Option Addr) (n c : Nat) (E : List Int) (k : FuncId) (cap : Array Value) (p : Int → Bool) (w : World) (h : Rd w A 1 n (E.map (.int .i64))) (hn : n ≤ 1000000) (hk : ∀ args W, (callFunc k args).run Tryz.prog W = .ok (.enter k args) W)
    (hf : ∀ W, Grows w W → ∀ e, Calls Tryz.prog k (#[.int .i64 e] ++ cap) W fun x w' => x = .returned (.bool (p e)) ∧ Grows W w') :
    Calls Tryz.prog 208 #[.slice A n c, .func (.func k) #[] cap] w fun e w' => e = .returned (.int .i64 (firstI p E)) ∧ Grows w w' := by
  have HL := hide (show E.length = n by simpa using h.len)
  have HR := hide h
  have HF := hide hf
  clear h hf
  go_enter Tryz.func208, Tryz.ntmps208
  go_wp2
  go_loopw [8] (fun i wr => ∃ k : Nat, k ≤ n ∧ i = .int .i64 (k : Int) ∧ (∃ x : Later w, wr = x.now) ∧ ∀ j, j < k → p (gi E j) = false) (fun i _ => n - (intOf i).toNat)
  case atStart => exact ⟨0, by omega, by go_num, ⟨⟨w, Grows.refl w⟩, rfl⟩, fun j h1 => by omega⟩
  case round =>
    obtain ⟨q, hq, rfl, ⟨x, rfl⟩, hall⟩ := hrel
    have HA := hide hall
    clear hall
    by_cases hend : n ≤ q
    · go_wp2
      go_ret
      refine ⟨ret_int ?_, GG⟩
      have hl := HL.out
      have hh := HA.out
      rw [firstI_none]
      intro e he
      obtain ⟨j, hj, rfl⟩ := mem_gi he
      exact hh j (by omega)
    · obtain ⟨b, off, rfl, hc⟩ := HR.out.ints (by omega)
      have hc1 := hc q (by omega)
      clear hc
      go_wp2_with fail
      refine (HF.out _ GG (gi E q)).mono ?_; rintro e w' ⟨rfl, hg⟩; obtain ⟨x1, rfl⟩ := Grows.later2 hg; clear hg
      cases hp : p (gi E q) with
      | true =>
        have HW : Hid (firstI p E = q) := firstI_at p 0 E q (by have := HL.out; omega) HA.out hp
        clear hp
        go_wp2
        go_ret
        exact ⟨ret_int HW.out.symm, GG⟩
      | false =>
        have HP := hide hp
        clear hp
        go_wp2
        go_roundw
        case measure => simp [intOf]; omega
        case rel =>
          refine ⟨q + 1, by omega, by go_num, ⟨_, rfl⟩, fun j h1 => ?_⟩
          by_cases hj : j = q
          · rw [hj]; exact HP.out
          · exact HA.out j (by omega)

set_option maxHeartbeats 1000000 in
theorem containsI (A : Option Addr) (n c : Nat) (E : List Int) (k : FuncId) (cap : Array Value) (p : Int → Bool) (w : World) (h : Rd w A 1 n (E.map (.int .i64))) (hn : n ≤ 1000000) (hk : ∀ args W, (callFunc k args).run Tryz.prog W = .ok (.enter k args) W)
    (hf : ∀ W, Grows w W → ∀ e, Calls Tryz.prog k (#[.int .i64 e] ++ cap) W fun x w' => x = .returned (.bool (p e)) ∧ Grows W w') :
    Calls Tryz.prog 162 #[.slice A n c, .func (.func k) #[] cap] w fun e w' => e = .returned (.bool (E.any p)) ∧ Grows w w' := by
  have HC := hide (indexI A n c E k cap p w h hn hk hf)
  have HV := hide (firstI_any p E)
  clear h hf hk
  go_enter Tryz.func162, Tryz.ntmps162
  go_wp2_with (first | (go_at_call 208; refine (HC.out).mono ?_; rintro e w' ⟨rfl, hg⟩; (first | obtain ⟨x, rfl⟩ := Grows.later2 hg | obtain ⟨x, rfl⟩ := Grows.later hg); clear hg))
  all_goals go_ret
  all_goals exact ⟨ret_bool (by rw [← HV.out]), GG⟩

def edgeB (m : Nat) (e : Int) : Bool := decide (0 ≤ e ∧ e < m)
set_option maxHeartbeats 400000 in
theorem gEdge (N e : Int) (A : Option Addr) (m c : Nat) (w : World) : Calls Tryz.prog 221 #[.agg #[.int .i64 N, .slice A m c], .int .i64 e] w fun x w' => x = .returned (.bool (edgeB m e)) ∧ Grows w w' := by
  go_enter Tryz.func221, Tryz.ntmps221
  go_wp2
  all_goals go_ret
  all_goals exact ⟨ret_bool (bool_ext (by unfold edgeB; simp; try omega)), GG⟩

set_option maxHeartbeats 400000 in
theorem pEdges1 (N e : Int) (A : Option Addr) (m c : Nat) (g : Nat) (w : World) (c0 : w.cell? ⟨g, 0, none⟩ = some (.int .i64 N)) (c1 : w.cell? ⟨g, 1, none⟩ = some (.slice A m c)) :
    Calls Tryz.prog 230 #[.int .i64 e, .pointer (some ⟨g, 0, none⟩)] w fun x w' => x = .returned (.bool (!edgeB m e)) ∧ Grows w w' := by
  go_enter Tryz.func230, Tryz.ntmps230
  go_wp2_with (first | (go_at_call 221; refine (gEdge _ _ _ _ _ _).mono ?_; rintro e w' ⟨rfl, hg⟩; (first | obtain ⟨x, rfl⟩ := Grows.later2 hg | obtain ⟨x, rfl⟩ := Grows.later hg); clear hg))
  all_goals go_ret
  all_goals exact ⟨rfl, GG⟩

def edgesB (N : Int) (E : List Edg) (l : List Int) : Bool := decide (rightF N E = 0) && !(l.any fun e => !edgeB E.length e)

set_option maxHeartbeats 1000000 in
theorem pEdges (N : Int) (A : Option Addr) (m c : Nat) (E : List Edg) (B : Option Addr) (n d : Nat) (l : List Int) (w : World) (h : Rd w A 3 m (esCells E)) (hm : m ≤ 1000000) (h' : Rd w B 1 n (l.map (.int .i64))) (hn : n ≤ 1000000) :
    Calls Tryz.prog 194 #[.agg #[.int .i64 N, .slice A m c], .slice B n d] w fun e w' => e = .returned (.bool (edgesB N E l)) ∧ Grows w w' := by
  have HL := hide h.elen
  have HR := hide h
  have HS := hide h'
  clear h h'
  have HK1 := hide (fun args W => run_callGo (P := Tryz.prog) Tryz.func230 (by kernel_rfl) (by kernel_rfl) args W)
  have C1 := fun (W : World) (g : Grows w W) => gRight N A m c E W (HR.out.grows g) hm
  have C2 := hide (fun (W : World) (g : Grows w W) c0 c1 => containsI B n d l 230 #[.pointer (some ⟨w.heap.size, 0, none⟩)] (fun e => !edgeB m e) W (HS.out.grows g) hn HK1.out (fun W' g' e => pEdges1 N e A m c w.heap.size W' (g'.keeps c0) (g'.keeps c1)))
  by_cases h0 : rightF N E = 0
  · have HW : Hid (edgesB N E l = !l.any fun e => !edgeB m e) := by unfold edgesB; rw [HL.out, decide_eq_true h0]; rfl
    rw [h0] at C1
    have H1 := hide C1
    clear C1 h0
    go_enter Tryz.func194, Tryz.ntmps194
    go_wp2_with (first | (go_at_call 76; refine (H1.out _ GG).mono ?_; rintro e w' ⟨rfl, hg⟩; (first | obtain ⟨x, rfl⟩ := Grows.later2 hg | obtain ⟨x, rfl⟩ := Grows.later hg); clear hg) | (go_at_call 162; refine (C2.out _ GG (by simp [go_sem]) (by simp [go_sem])).mono ?_; rintro e w' ⟨rfl, hg⟩; (first | obtain ⟨x, rfl⟩ := Grows.later2 hg | obtain ⟨x, rfl⟩ := Grows.later hg); clear hg))
    go_ret
    exact ⟨ret_bool HW.out.symm, GG⟩
  · have HW : Hid (edgesB N E l = false) := by unfold edgesB; rw [decide_eq_false h0]; rfl
    have hd : (rightF N E == 0) = false := by simpa using h0
    have H1 := hide C1
    clear C1 h0
    go_enter Tryz.func194, Tryz.ntmps194
    go_wp2_with (first | (go_at_call 76; refine (H1.out _ GG).mono ?_; rintro e w' ⟨rfl, hg⟩; (first | obtain ⟨x, rfl⟩ := Grows.later2 hg | obtain ⟨x, rfl⟩ := Grows.later hg); clear hg))
    go_ret
    exact ⟨ret_bool HW.out.symm, GG⟩

end Go.Proofs.YtgplpgldhoelcaaGreat

namespace Go.Proofs.YtgplpgldhoelcaaGreat
open Go Go.RowKit
theorem es_one (E : List Edg) : ∀ u ∈ esCells E, u.oneCell' = true := by
  intro u hu
  obtain ⟨e, _, h⟩ := List.mem_flatMap.1 hu
  unfold eCells at h
  simp at h
  rcases h with rfl | rfl | rfl <;> rfl
set_option maxRecDepth 20000 in
set_option maxHeartbeats 2000000 in
theorem cloneE (A : Option Addr) (n c : Nat) (E : List Edg) (w : World) (h : Rd w A 3 n (esCells E)) (hn : n ≤ 1000000) :
    Calls Tryz.prog 134 #[.slice A n c] w fun e w' => ∃ A' c', e = .returned (.slice A' n c') ∧ Own w' w.heap.size 84 3 A' n c' (esCells E) ∧ Grows w w' := by
  cases A with
  | none =>
    have hn0 : n = 0 := by
      rcases Nat.eq_zero_or_pos n with h0 | h0
      · exact h0
      · obtain ⟨_, _, e, _⟩ := h.2 h0 (by omega); cases e
    subst hn0
    have hE : E = [] := List.eq_nil_of_length_eq_zero h.elen
    subst hE
    clear h
    have hnil := fun (w : World) (a : Option Addr) (n c n' c' : Nat) => Lib.run_eql_slice_nil (P := Tryz.prog) w 33 84 a n c n' c' Tryz.underlying33
    go_enter Tryz.func134, Tryz.ntmps134
    go_wp2
    go_ret
    exact ⟨none, 0, rfl, Own.nil _ _ _ _, GG⟩
  | some ad =>
    have HR := hide h
    clear h
    have hnil := fun (w : World) (a : Option Addr) (n c n' c' : Nat) => Lib.run_eql_slice_nil (P := Tryz.prog) w 33 84 a n c n' c' Tryz.underlying33
    go_enter Tryz.func134, Tryz.ntmps134
    go_wp2_with (at_builtin; refine wp_appAll elemEdge rfl _ _ rfl w GG 0 0 _ [] rfl (Own.empty _ _ _ _ (Nat.le_refl _)) ad n c _ rfl (HR.out.grows GG) (es_one E) (by omega) ?_; intro A3 c3 y3 hown3; have HO3 := hide hown3; clear hown3)
    go_ret
    exact ⟨A3, c3, by first | rfl | (simp; done) | (rw [Nat.zero_add]; rfl), by have := HO3.out; rwa [Nat.zero_add, List.nil_append] at this, GG⟩
theorem Own.low {w : World} {B n c size : Nat} {e : TypeId} {A : Option Addr} {xs : List Value} (h : Own w B e size A n c xs) {q : Addr} (hq : q.block < B) (u : Value) : Own (w.setCell q u) B e size A n c xs := by
  refine ⟨h.1, ?_⟩
  rcases h.2 with h1 | ⟨g, cap, cur, h1, h2, h3, h4⟩
  · exact .inl h1
  · refine .inr ⟨g, cap, cur, h1, h2, ?_, h4⟩
    rw [← h3]
    simp [World.setCell, Array.getElem?_modify]
    intro e
    omega
theorem Own.base {w : World} {B B' n c size : Nat} {e : TypeId} {A : Option Addr} {xs : List Value} (h : Own w B e size A n c xs) (hB : B' ≤ B) : Own w B' e size A n c xs := by
  refine ⟨h.1, ?_⟩
  rcases h.2 with h1 | ⟨g, cap, cur, h1, h2, h3⟩
  · exact .inl h1
  · exact .inr ⟨g, cap, cur, h1, Nat.le_trans hB h2, h3⟩
def GiveOG (w : World) (N : Int) (E : List Edg) (e : Ending) (w' : World) : Prop := ∃ A c, e = .returned (.agg #[.int .i64 N, .slice A E.length c]) ∧ Own w' w.heap.size 84 3 A E.length c (esCells E) ∧ Grows w w'
set_option maxRecDepth 20000 in
set_option maxHeartbeats 2000000 in
theorem gClone (N : Int) (A : Option Addr) (n c : Nat) (E : List Edg) (w : World) (h : Rd w A 3 n (esCells E)) (hn : n ≤ 1000000) :
    Calls Tryz.prog 78 #[.agg #[.int .i64 N, .slice A n c]] w (GiveOG w N E) := by
  have HL := hide h.elen
  have HC := hide (fun W (g : Grows w W) => cloneE A n c E W (h.grows g) hn)
  clear h
  go_enter Tryz.func78, Tryz.ntmps78
  go_upto_region 1 with fail
  go_region_with (go_at_call 134; refine (HC.out _ GG).mono ?_; rintro e w' ⟨A1, c1, rfl, ho1, hg⟩; obtain ⟨x1, rfl⟩ := hg.later; have HO1 := hide ho1; clear hg ho1)
  all_goals go_wp2_with fail
  all_goals refine bodyPost_ret (v := .agg #[.int .i64 N, .slice A1 n c1]) (by simp (maxDischargeDepth := 6) [results, Tryz.results78, go_sem, *]) rfl ⟨A1, c1, by rw [HL.out], ?_, GG⟩
  all_goals rw [HL.out]
  all_goals exact ((HO1.out.low (by simp) _).low (by simp) _).base (by simp; omega)
end Go.Proofs.YtgplpgldhoelcaaGreat

