/- Contracts: the top; what is taken out. -/
import Derived.Test.YtomednfddpggaaaQStatSums07
import Derived.Test.YtomednfddpggaaaQStatSums05
import Derived.Test.YtomednfddpggaaaQStatSums04
/- Contracts: the top; what is taken out. -/
namespace Go.Proofs.Ytomednfddpggaaa
open Go Go.RowKit
theorem hpLen (b : Nat) (A : Option Addr) (n c : Nat) (u : Value) (w : World) (h : Arr w b 186 [.slice A n c, u]) : Calls Try.prog 157 #[.pointer (some ⟨b, 0, none⟩)] w fun e w' => e = .returned (.int .i64 (n : Int)) ∧ w = w' := by
  go_enter Try.func157, Try.ntmps157
  go_wp2
  go_ret
  exact ⟨rfl, rfl⟩
theorem hpWhere (b : Nat) (A : Option Addr) (n c G N v : Nat) (T : List Int) (w : World) (h : Arr w b 186 [.slice A n c, .slice (some ⟨G, 0, none⟩) N N]) (ht : Row1 w G 3 1 N N (T.map (.int .i64))) (hv : v < N) :
    Calls Try.prog 158 #[.pointer (some ⟨b, 0, none⟩), .int .i64 (v : Int)] w fun e w' => e = .returned (.int .i64 (gz T v)) ∧ w = w' := by
  have m0 : Mine w ⟨G, v, none⟩ (.int .i64 (gz T v)) := ht.int hv
  clear ht
  go_enter Try.func158, Try.ntmps158
  go_wp2
  go_ret
  exact ⟨rfl, rfl⟩
theorem Own.cut {w : World} {B n c m size : Nat} {e : TypeId} {A : Option Addr} {xs : List Value} (h : Own w B e size A n c xs) (hm : m ≤ n) (hn : 0 < n) : Own w B e size A m c (xs.take (m * size)) := by
  obtain ⟨g, cur, rfl, hB, hh, hc, hs, ht⟩ := h.at_ hn
  have hl := h.len
  have hmm : m * size ≤ n * size := Nat.mul_le_mul_right _ hm
  have hcm : c ≤ maxLen := by
    rcases h.2 with ⟨h1, _⟩ | ⟨g2, cap, cur2, h1, _, _, _, h5, _⟩
    · cases h1
    · injection h1 with _ _ h7; subst h7; exact h5
  refine ⟨by rw [List.length_take]; omega, .inr ⟨g, c, cur, rfl, hB, hh, by omega, hcm, hs, ?_⟩⟩
  rw [← ht, List.take_take]
  congr 1
  omega
theorem its_take (L : List Itm) (m : Nat) : its (L.take m) = (its L).take (m * 2) := by
  induction L generalizing m with
  | nil => simp [its]
  | cons x L ih =>
    cases m with
    | zero => simp [its]
    | succ m =>
      have := ih m
      show itCells x ++ its (L.take m) = (itCells x ++ its L).take ((m + 1) * 2)
      have e1 : List.take ((m + 1) * 2) (itCells x) = itCells x := List.take_of_length_le (by show 2 ≤ _; omega)
      have e2 : (m + 1) * 2 - (itCells x).length = m * 2 := by show (m + 1) * 2 - 2 = _; omega
      rw [this, List.take_append, e1, e2]
theorem drop_mid {w Wp : World} {S : Nat → Prop} {b c G v last : Nat} {A : Option Addr} {s : HS} (r1 : Arr w b 186 [.slice A s.L.length c, .slice (some ⟨G, 0, none⟩) s.T.length s.T.length]) (r2 : Own w 0 204 2 A s.L.length c (its s.L))
    (r3 : Row1 w G 3 1 s.T.length s.T.length (s.T.map (.int .i64))) (s1 : S b) (s2 : S G) (h6 : ∀ p, A = some p → S p.block) (hg : Grows (w.setCell ⟨G, v, none⟩ (.int .i64 (-1))) Wp) (hl : last ≤ s.L.length) (h0 : 0 < s.L.length) :
    HpAt (Wp.setCell ⟨b, 0, none⟩ (.slice A last c)) S b ⟨s.L.take last, s.T.set v (-1)⟩ ∧ Touch S w (Wp.setCell ⟨b, 0, none⟩ (.slice A last c)) ∧ Arr Wp b 186 [.slice A s.L.length c, .slice (some ⟨G, 0, none⟩) s.T.length s.T.length] := by
  have n2 := r3.ne r1 (by decide)
  have nb := r2.not_row r3 (by decide)
  have q1 := ((r1.other (p := ⟨G, v, none⟩) n2 (.int .i64 (-1))).grow hg)
  have q2 := ((r2.othr (q := ⟨G, v, none⟩) nb (.int .i64 (-1))).grows hg)
  have q3 := ((r3.set v (.int .i64 (-1))).grow hg)
  have e1 : (s.L.take last).length = last := by simp; omega
  refine ⟨⟨A, c, G, ?_, ?_, ?_, s1, s2, h6⟩, ?_, q1⟩
  · have := q1.set 0 (.slice A last c)
    show Arr _ _ _ [.slice A (s.L.take last).length c, .slice (some ⟨G, 0, none⟩) (s.T.set v (-1)).length (s.T.set v (-1)).length]
    rw [e1, List.length_set]
    exact this
  · have := (q2.cut hl h0).othr (q := ⟨b, 0, none⟩) ((q2.cut hl h0).not_arr q1 (by decide)) (.slice A last c)
    show Own _ _ _ _ _ (s.L.take last).length _ (its (s.L.take last))
    rw [e1, its_take]
    exact this
  · have := q3.other (p := ⟨b, 0, none⟩) (Ne.symm n2) (.slice A last c)
    show Row1 _ _ _ _ (s.T.set v (-1)).length (s.T.set v (-1)).length _
    rw [List.length_set, List.map_set]
    exact this
  · exact ((((Touch.refl S w).set (.inl s2) _).grows hg)).set (.inl s1) _
theorem drop_in {s : HS} {N last : Nat} (h : s.In N) (v : Nat) : (⟨s.L.take last, s.T.set v (-1)⟩ : HS).In N := by
  refine ⟨by simp [h.1], fun i hi => ?_⟩
  simp at hi
  unfold gi2
  rw [List.getD_eq_getElem?_getD, List.getElem?_take, if_pos (by omega), ← List.getD_eq_getElem?_getD]
  exact h.2 i (by omega)
set_option maxRecDepth 20000 in
set_option maxHeartbeats 4000000 in
theorem hpDrop (b N : Nat) (s : HS) (v i : Nat) (S : Nat → Prop) (w : World) (h : HpAt w S b s) (hs : ∀ k, S k → k < w.heap.size) (hin : s.In N) (hv : v < N) (hz : gz s.T v = (i : Int)) (hi : i < s.L.length) (hl : s.L.length ≤ 90000) :
    Calls Try.prog 152 #[.pointer (some ⟨b, 0, none⟩), .int .i64 (v : Int)] w fun e w' => e = .returned (.bool true) ∧ HpAt w' S b (s.drop v) ∧ Touch S w w' := by
  have hbx : ¬ S w.heap.size := fun e => by have := hs _ e; omega
  obtain ⟨A, c, G, r1, r2, r3, r4, r5, r6⟩ := h
  have hT := hin.1
  have m0 : Mine w ⟨G, v, none⟩ (.int .i64 (gz s.T v)) := r3.int (by omega)
  rw [hz] at m0
  have hvT : v < s.T.length := by omega
  have HW := hide (fun W => hpWhere b A s.L.length c G s.T.length v s.T W)
  rw [hz] at HW
  obtain ⟨n, hn⟩ : ∃ n, s.L.length = n + 1 := ⟨s.L.length - 1, by omega⟩
  obtain ⟨g, rfl, m1, m2⟩ := r2.item (i := n) (by omega)
  have HD : Hid (s.drop v = if i = n then ⟨s.L.take n, s.T.set v (-1)⟩ else if gz ((⟨s.L.take n, s.T.set v (-1)⟩ : HS).sink i (gi2 s.L n)).T (gi2 s.L n).1 = (i : Int) then ((⟨s.L.take n, s.T.set v (-1)⟩ : HS).sink i (gi2 s.L n)).rise i (gi2 s.L n) else (⟨s.L.take n, s.T.set v (-1)⟩ : HS).sink i (gi2 s.L n)) := by
    show _ = _
    unfold HS.drop
    rw [hz, hn, Nat.add_sub_cancel, Int.toNat_natCast]
  have hcap : n + 1 ≤ c := by
    obtain ⟨_, _, _, _, _, hc, _⟩ := r2.at_ (by omega)
    omega
  have hb0 : ((i : Int) == -1) = false := beq_eq_false_iff_ne.2 (by omega)
  have n1 := r3.ne r1 (by decide)
  have n3 := r2.not_row r3 (by decide) _ rfl
  have hgG : ¬ G = g := fun e => n3 e.symm
  have HIN := hide hin
  have HI2 : Hid ((⟨s.L.take n, s.T.set v (-1)⟩ : HS).In N) := drop_in hin v
  have HSS := hide hs
  have hxN : (gi2 s.L n).1 < N := hin.2 n (by omega)
  have hiB : i ≤ 90000 := by omega
  have hin1 : i ≤ n := by omega
  have hin0 : 0 < s.L.length := by omega
  have hnl : n ≤ s.L.length := by omega
  have HWW := hide (HW.out w r1 r3 hvT)
  have HMID := hide (fun (Wp : World) (hg : Grows (w.setCell ⟨G, v, none⟩ (.int .i64 (-1))) Wp) => drop_mid (S := S) (v := v) (last := n) r1 r2 r3 r4 r5 r6 hg hnl hin0)
  have p1 := r1.other (p := ⟨G, v, none⟩) n1 (.int .i64 (-1))
  have p2 := m1.set_other (q := ⟨G, v, none⟩) (.int .i64 (-1)) (by intro e; injection e with e; exact hgG e)
  have p3 := m2.set_other (q := ⟨G, v, none⟩) (.int .i64 (-1)) (by intro e; injection e with e; exact hgG e)
  have HN := hide hn
  rw [hn] at p1 hi hl
  have R1 := hide r1
  clear hin hs hz r2 r3 r6 HW hT hn hin0 hnl m1 m2 n1 n3
  by_cases hin2 : i = n
  · subst hin2
    rw [if_pos rfl] at HD
    go_enter Try.func152, Try.ntmps152
    go_wp2_with (go_at_call 158; refine (HWW.out).mono ?_; rintro e w' ⟨rfl, rfl⟩)
    go_ret
    have hm := HMID.out _ ((Grows.refl (w.setCell ⟨G, v, none⟩ (.int .i64 (-1)))).new (.cells #[.int .i64 ((gi2 s.L i).1 : Int), .int .u64 ((gi2 s.L i).2 : Int)] 204))
    exact ⟨rfl, HD.out ▸ hm.1, hm.2.1⟩
  · rw [if_neg hin2] at HD
    have hb1 : ((i : Int) == (n : Int)) = false := beq_eq_false_iff_ne.2 (by omega)
    have hb2 : (i == n) = false := beq_eq_false_iff_ne.2 hin2
    have hbz : w.heap.size ≠ b := fun e => hbx (e ▸ r4)
    go_enter Try.func152, Try.ntmps152
    go_upto_region 10 with (go_at_call 158; refine (HWW.out).mono ?_; rintro e w' ⟨rfl, rfl⟩)
    have hm := HMID.out _ ((Grows.refl (w.setCell ⟨G, v, none⟩ (.int .i64 (-1)))).new (.cells #[.int .i64 ((gi2 s.L n).1 : Int), .int .u64 ((gi2 s.L n).2 : Int)] 204))
    have q5 : Arr (((w.setCell ⟨G, v, none⟩ (.int .i64 (-1))).alloc (.cells #[.int .i64 ((gi2 s.L n).1 : Int), .int .u64 ((gi2 s.L n).2 : Int)] 204)).setCell ⟨b, 0, none⟩ (.slice (some ⟨g, 0, none⟩) n c)) w.heap.size 204 [.int .i64 ((gi2 s.L n).1 : Int), .int .u64 ((gi2 s.L n).2 : Int)] :=
      Arr.other (by
        have h := Arr.make (w.setCell ⟨G, v, none⟩ (.int .i64 (-1))) [Value.int .i64 ((gi2 s.L n).1 : Int), .int .u64 ((gi2 s.L n).2 : Int)] 204
        rw [size_setCell] at h
        exact h) (Ne.symm hbz) _
    generalize ((w.setCell ⟨G, v, none⟩ (.int .i64 (-1))).alloc (.cells #[.int .i64 ((gi2 s.L n).1 : Int), .int .u64 ((gi2 s.L n).2 : Int)] 204)).setCell ⟨b, 0, none⟩ (.slice (some ⟨g, 0, none⟩) n c) = W3 at *
    obtain ⟨e1, e2, _⟩ := hm
    have hin3 : i < (⟨s.L.take n, s.T.set v (-1)⟩ : HS).L.length := by have := HN.out; simp; omega
    have hln : (⟨s.L.take n, s.T.set v (-1)⟩ : HS).L.length ≤ 90000 := by simp; omega
    generalize (⟨s.L.take n, s.T.set v (-1)⟩ : HS) = s1 at *
    have HT2 := hide e2
    have HS1 := hide (HS.sink_in HI2.out i (gi2 s.L n) hxN)
    have HSK := hide (fun (W : World) (hg : Grows W3 W) => hpSink b N s1 i (gi2 s.L n) S W (e1.grow hg) (fun k hk => Nat.lt_of_lt_of_le (HSS.out k hk) (Nat.le_trans HT2.out.size hg.size)) HI2.out hin3 hxN (by omega))
    generalize gi2 s.L n = x at *
    unfold itVal at HSK
    obtain ⟨x1, x2⟩ := x
    dsimp only at *
    clear e1 e2 m0 p1 p2 p3 r1 hin2 hb1 hb2
    have HL1 := hide hin3
    clear hin3
    go_wp2_with (go_at_call 159; refine (HSK.out _ GG).mono ?_; rintro e w4 ⟨rfl, hp, ht⟩; have q6 := q5.touch ht hbx; have HP4 := hide hp; have HT4 := hide ht; clear hp ht)
    have hi2 := HS1.out
    generalize s1.sink i (x1, x2) = s2 at *
    obtain ⟨hi3, hi4⟩ := hi2
    obtain ⟨A', c', G', t1, t2, t3, t4, t5, t6⟩ := HP4.out
    have mm : Mine w4 ⟨G', x1, none⟩ (.int .i64 (gz s2.T x1)) := t3.int (by rw [hi3.1]; exact hxN)
    have HRI := hide (fun (W : World) (hg : Grows w4 W) => hpRise b N s2 i (x1, x2) S W (HP4.out.grow hg) (fun k hk => Nat.lt_of_lt_of_le (HSS.out k hk) (Nat.le_trans HT2.out.size (Nat.le_trans HT4.out.size hg.size))) hi3 (by rw [hi4]; exact HL1.out) hxN (by omega))
    unfold itVal at HRI
    dsimp only at HRI
    have hx1 : x1 < s2.T.length := by rw [hi3.1]; exact hxN
    clear hi3 hi4 t2 t3 t6
    generalize gz s2.T x1 = z at *
    by_cases hzi : z = (i : Int)
    · subst hzi
      rw [if_pos rfl] at HD
      ((first | refine wp_region_gen2 (by kernel_rfl) (by kernel_rfl) ?_ | refine wp_region_gen (by kernel_rfl) (by kernel_rfl) ?_); (repeat' (first | (refine gLex_val0 rfl (by kernel_rfl) (fun K hK => ?_); (go_simp; (try (simp only [↓IntWalk.iteOmega]; try go_simp)); (try simp (disch := omega) only [IntWalk.i64_in]); (try simp (disch := omega) only [IntWalk.u64_in]); first | (refine hK _ ?_; clear hK K) | (apply Exists.intro; refine ⟨fun x => ?_, hK _ ?_⟩; (first | fail); clear hK K))) | (refine gLex_undef rfl rfl rfl (by kernel_rfl) (fun K hK => ?_); go_simp; refine hK _ ?_; clear hK K) | (refine gLex_ask rfl rfl rfl ?_; first | (apply gAsk_yes; kernel_rfl; intro K hK; (go_simp; (try (simp only [↓IntWalk.iteOmega]; try go_simp)); (try simp (disch := omega) only [IntWalk.i64_in]); (try simp (disch := omega) only [IntWalk.u64_in]); first | (refine hK _ ?_; clear hK K) | (apply Exists.intro; refine ⟨fun x => ?_, hK _ ?_⟩; (first | fail); clear hK K))) | ((first | apply gAsk_no1 | apply gAsk_no2); kernel_rfl; intro K hK; simp [go_sem]; refine hK _ ?_; clear hK K) | (apply gAsk_part; kernel_rfl; all_goals (intro h K hK; (try simp only [Bool.not_true] at h); (try simp only [Bool.not_false] at h); (try simp only [decide_eq_true_eq] at h); (try simp only [decide_eq_false_iff_not] at h); first | (exfalso; first | contradiction | omega) | (go_simp; (try (simp only [↓IntWalk.iteOmega]; try go_simp)); (try simp (disch := omega) only [IntWalk.i64_in]); (try simp (disch := omega) only [IntWalk.u64_in]); first | (refine hK _ ?_; clear hK K) | (apply Exists.intro; refine ⟨fun x => ?_, hK _ ?_⟩; (first | fail); clear hK K))))))); all_goals ((apply gLex_end); intro y))
      go_wp2_with (go_at_call 150; refine (HRI.out _ GG).mono ?_; rintro e w' ⟨rfl, hp, ht⟩; have HP5 := hide hp; have HT5 := hide ht; clear hp ht)
      have hgy : Grows w4 y.now := GG
      go_ret
      exact ⟨rfl, HD.out ▸ HP5.out, (HT2.out.trans ((HT4.out.grows hgy).trans HT5.out))⟩
    · rw [if_neg hzi] at HD
      have hb : (z == (i : Int)) = false := beq_eq_false_iff_ne.2 hzi
      clear hzi
      ((first | refine wp_region_gen2 (by kernel_rfl) (by kernel_rfl) ?_ | refine wp_region_gen (by kernel_rfl) (by kernel_rfl) ?_); (repeat' (first | (refine gLex_val0 rfl (by kernel_rfl) (fun K hK => ?_); (go_simp; (try (simp only [↓IntWalk.iteOmega]; try go_simp)); (try simp (disch := omega) only [IntWalk.i64_in]); (try simp (disch := omega) only [IntWalk.u64_in]); first | (refine hK _ ?_; clear hK K) | (apply Exists.intro; refine ⟨fun x => ?_, hK _ ?_⟩; (first | fail); clear hK K))) | (refine gLex_undef rfl rfl rfl (by kernel_rfl) (fun K hK => ?_); go_simp; refine hK _ ?_; clear hK K) | (refine gLex_ask rfl rfl rfl ?_; first | (apply gAsk_yes; kernel_rfl; intro K hK; (go_simp; (try (simp only [↓IntWalk.iteOmega]; try go_simp)); (try simp (disch := omega) only [IntWalk.i64_in]); (try simp (disch := omega) only [IntWalk.u64_in]); first | (refine hK _ ?_; clear hK K) | (apply Exists.intro; refine ⟨fun x => ?_, hK _ ?_⟩; (first | fail); clear hK K))) | ((first | apply gAsk_no1 | apply gAsk_no2); kernel_rfl; intro K hK; simp [go_sem]; refine hK _ ?_; clear hK K) | (apply gAsk_part; kernel_rfl; all_goals (intro h K hK; (try simp only [Bool.not_true] at h); (try simp only [Bool.not_false] at h); (try simp only [decide_eq_true_eq] at h); (try simp only [decide_eq_false_iff_not] at h); first | (exfalso; first | contradiction | omega) | (go_simp; (try (simp only [↓IntWalk.iteOmega]; try go_simp)); (try simp (disch := omega) only [IntWalk.i64_in]); (try simp (disch := omega) only [IntWalk.u64_in]); first | (refine hK _ ?_; clear hK K) | (apply Exists.intro; refine ⟨fun x => ?_, hK _ ?_⟩; (first | fail); clear hK K))))))); all_goals ((apply gLex_end); intro y))
      go_wp2_with fail
      have hgy : Grows w4 y.now := GG
      go_ret
      exact ⟨rfl, HD.out ▸ HP4.out.grow hgy, (HT2.out.trans (HT4.out.grows hgy))⟩
def GivePop (w : World) (S : Nat → Prop) (b : Nat) (s : HS) (e : Ending) (w' : World) : Prop :=
  e = .returned (.tuple #[.int .i64 ((gi2 s.L 0).1 : Int), .int .u64 ((gi2 s.L 0).2 : Int), .bool true]) ∧ HpAt w' S b (s.drop (gi2 s.L 0).1) ∧ Touch S w w'
set_option maxHeartbeats 2000000 in
theorem hpTopNo (b : Nat) (s : HS) (S : Nat → Prop) (w : World) (h : HpAt w S b s) (h0 : s.L.length = 0) :
    Calls Try.prog 151 #[.pointer (some ⟨b, 0, none⟩)] w fun e w' => e = .returned (.tuple #[.int .i64 0, .int .u64 0, .bool false]) ∧ Grows w w' := by
  obtain ⟨A, c, G, r1, r2, r3, r4, r5, r6⟩ := h
  rw [h0] at r1
  have C := hide (hpLen b A 0 c _ w r1)
  clear r2 r3 r6
  go_enter Try.func151, Try.ntmps151
  go_wp2_with (go_at_call 157; refine (C.out).mono ?_; rintro e w' ⟨rfl, rfl⟩)
  refine bodyPost_ret (v := .tuple #[.int .i64 0, .int .u64 0, .bool false]) (by simp [results, Try.results151, go_sem]) rfl ⟨rfl, GG⟩
set_option maxHeartbeats 2000000 in
theorem hpTop (b : Nat) (s : HS) (S : Nat → Prop) (w : World) (h : HpAt w S b s) (h0 : 0 < s.L.length) :
    Calls Try.prog 151 #[.pointer (some ⟨b, 0, none⟩)] w fun e w' => e = .returned (.tuple #[.int .i64 ((gi2 s.L 0).1 : Int), .int .u64 ((gi2 s.L 0).2 : Int), .bool true]) ∧ Grows w w' := by
  obtain ⟨A, c, G, r1, r2, r3, r4, r5, r6⟩ := h
  obtain ⟨g, rfl, m1, m2⟩ := r2.item h0
  rw [Nat.zero_mul] at m1 m2
  have C := hide (hpLen b (some ⟨g, 0, none⟩) s.L.length c _ w r1)
  have hb : ((s.L.length : Int) == 0) = false := beq_eq_false_iff_ne.2 (by omega)
  clear r2 r3 r6
  generalize gi2 s.L 0 = q at *
  obtain ⟨q1, q2⟩ := q
  dsimp only at *
  go_enter Try.func151, Try.ntmps151
  go_wp2_with (go_at_call 157; refine (C.out).mono ?_; rintro e w' ⟨rfl, rfl⟩)
  ((first | refine wp_region_gen2 (by kernel_rfl) (by kernel_rfl) ?_ | refine wp_region_gen (by kernel_rfl) (by kernel_rfl) ?_); (repeat' (first | (refine gLex_val0 rfl (by kernel_rfl) (fun K hK => ?_); (go_simp; (try (simp only [↓IntWalk.iteOmega]; try go_simp)); (try simp (disch := omega) only [IntWalk.i64_in]); (try simp (disch := omega) only [IntWalk.u64_in]); first | (refine hK _ ?_; clear hK K) | (apply Exists.intro; refine ⟨fun x => ?_, hK _ ?_⟩; (first | fail); clear hK K))) | (refine gLex_undef rfl rfl rfl (by kernel_rfl) (fun K hK => ?_); go_simp; refine hK _ ?_; clear hK K) | (refine gLex_ask rfl rfl rfl ?_; first | (apply gAsk_yes; kernel_rfl; intro K hK; (go_simp; (try (simp only [↓IntWalk.iteOmega]; try go_simp)); (try simp (disch := omega) only [IntWalk.i64_in]); (try simp (disch := omega) only [IntWalk.u64_in]); first | (refine hK _ ?_; clear hK K) | (apply Exists.intro; refine ⟨fun x => ?_, hK _ ?_⟩; (first | fail); clear hK K))) | ((first | apply gAsk_no1 | apply gAsk_no2); kernel_rfl; intro K hK; simp [go_sem]; refine hK _ ?_; clear hK K) | (apply gAsk_part; kernel_rfl; all_goals (intro h K hK; (try simp only [Bool.not_true] at h); (try simp only [Bool.not_false] at h); (try simp only [decide_eq_true_eq] at h); (try simp only [decide_eq_false_iff_not] at h); first | (exfalso; first | contradiction | omega) | (go_simp; (try (simp only [↓IntWalk.iteOmega]; try go_simp)); (try simp (disch := omega) only [IntWalk.i64_in]); (try simp (disch := omega) only [IntWalk.u64_in]); first | (refine hK _ ?_; clear hK K) | (apply Exists.intro; refine ⟨fun x => ?_, hK _ ?_⟩; (first | fail); clear hK K))))))); all_goals ((apply gLex_end); intro y))
  go_wp2_with fail
  refine bodyPost_ret (v := .tuple #[.int .i64 (q1 : Int), .int .u64 (q2 : Int), .bool true]) (by simp [results, Try.results151, go_sem]) rfl ⟨rfl, GG⟩
set_option maxHeartbeats 2000000 in
theorem hpPopNo (b : Nat) (s : HS) (S : Nat → Prop) (w : World) (h : HpAt w S b s) (h0 : s.L.length = 0) :
    Calls Try.prog 137 #[.pointer (some ⟨b, 0, none⟩)] w fun e w' => e = .returned (.tuple #[.int .i64 0, .int .u64 0, .bool false]) ∧ Grows w w' := by
  have C := hide (hpTopNo b s S w h h0)
  clear h
  go_enter Try.func137, Try.ntmps137
  go_wp2_with (go_at_call 151; refine (C.out).mono ?_; rintro e w' ⟨rfl, hg⟩; obtain ⟨y, rfl⟩ := hg.later; clear hg)
  refine bodyPost_ret (v := .tuple #[.int .i64 0, .int .u64 0, .bool false]) (by simp [results, Try.results137, go_sem]) rfl ⟨rfl, GG⟩
set_option maxHeartbeats 2000000 in
theorem hpPop (b N : Nat) (s : HS) (S : Nat → Prop) (i : Nat) (w : World) (h : HpAt w S b s) (hs : ∀ k, S k → k < w.heap.size) (hin : s.In N) (h0 : 0 < s.L.length) (hz : gz s.T (gi2 s.L 0).1 = (i : Int)) (hi : i < s.L.length) (hl : s.L.length ≤ 90000) :
    Calls Try.prog 137 #[.pointer (some ⟨b, 0, none⟩)] w (GivePop w S b s) := by
  unfold GivePop
  have C := hide (hpTop b s S w h h0)
  have D := hide (fun (W : World) (hg : Grows w W) => hpDrop b N s (gi2 s.L 0).1 i S W (h.grow hg) (fun k hk => Nat.lt_of_lt_of_le (hs k hk) hg.size) hin (hin.2 0 h0) hz hi hl)
  clear h hs hin hz
  generalize gi2 s.L 0 = q at *
  obtain ⟨q1, q2⟩ := q
  dsimp only at *
  go_enter Try.func137, Try.ntmps137
  go_wp2_with (first
    | (go_at_call 151; refine (C.out).mono ?_; rintro e w' ⟨rfl, hg⟩; obtain ⟨y, rfl⟩ := hg.later; clear hg)
    | (go_at_call 152; refine (D.out _ GG).mono ?_; rintro e w' ⟨rfl, hp, ht⟩; have HP := hide hp; have HT := hide ht; clear hp ht))
  have hgy : Grows w y.now := y.grows
  exact bodyPost_ret (v := .tuple #[.int .i64 (q1 : Int), .int .u64 (q2 : Int), .bool true]) (by simp [results, Try.results137, go_sem]) rfl ⟨rfl, HP.out, (hgy.touch S).trans HT.out⟩
end Go.Proofs.Ytomednfddpggaaa

/- Contracts: new sets, new rows, new heaps. -/
namespace Go.Proofs.Ytomednfddpggaaa
open Go Go.RowKit
theorem run_makeU64s (n : Nat) (hn : n ≤ 1000000000) (w : World) : (Instr.makeSlice 37 (.int .i64 (n : Int)) (.int .i64 (n : Int))).run Try.prog w = .ok (.slice (some ⟨w.heap.size, 0, none⟩) n n) (w.alloc (.cells (List.replicate n (Value.int .u64 0)).toArray 38)) := by
  obtain ⟨i, h1, h2, h3, h4⟩ := elemU64.info
  have := run_make_row (P := Try.prog) 37 38 i (.int .u64 0) Try.underlying37 h1 h2 h3 rfl .i64 .i64 n (by have := Nat.mul_le_mul h4 hn; omega) (by omega) w
  have e : madeCells #[Value.int .u64 0] n = (List.replicate n (Value.int .u64 0)).toArray := Array.ext' (by rw [toList_madeCells_one])
  rw [e] at this
  exact this
theorem scs_rep (n : Nat) : ∀ k, k < n * 2 → (scs (List.replicate n (0, 0)))[k]? = some (.int .u64 0) := by
  intro k hk
  have e : k = k / 2 * 2 + k % 2 := (Nat.div_add_mod' k 2).symm
  have h := scs_at (List.replicate n (0, 0)) (k / 2) (k % 2) (by simp; omega) (Nat.mod_lt _ (by omega))
  rw [← e] at h
  rw [h]
  have hg : gp (List.replicate n (0, 0)) (k / 2) = (0, 0) := by
    unfold gp
    rw [List.getD_eq_getElem?_getD, List.getElem?_replicate]
    split <;> rfl
  rw [hg]
  rcases (by omega : k % 2 = 0 ∨ k % 2 = 1) with e | e <;> rw [e] <;> rfl
theorem made_two (n : Nat) : madeCells #[Value.int .u64 0, .int .u64 0] (n * 2) = (scs (List.replicate n (0, 0))).toArray := by
  apply Array.ext'
  apply List.ext_getElem?
  intro k
  by_cases hk : k < n * 2
  · rw [scs_rep n k hk]
    rcases (by omega : k % 2 = 0 ∨ k % 2 = 1) with e | e <;> simp [madeCells, hk, e]
  · rw [List.getElem?_eq_none (by simp [madeCells]; omega), List.getElem?_eq_none (by rw [scs_len]; simp; omega)]
theorem run_makeSt (n : Nat) (hn : n ≤ 1000000000) (w : World) : (Instr.makeSlice 181 (.int .i64 (n : Int)) (.int .i64 (n : Int))).run Try.prog w = .ok (.slice (some ⟨w.heap.size, 0, none⟩) n n) (w.alloc (.cells (scs (List.replicate n (0, 0))).toArray 211)) := by
  have h : (Try.prog.info? 211).map (fun i => (i.zero, i.size, i.bytes)) = some (some (.agg #[.int .u64 0, .int .u64 0]), 2, 16) := by kernel_rfl
  obtain ⟨i, hi, hz, hs, hb⟩ := info_parts h
  have := run_make (P := Try.prog) w 181 211 i _ Try.underlying181 hi hz .i64 .i64 (n : Int) (n : Int) (by omega) (Int.le_refl _) (by rw [hb]; omega) (by omega)
  rw [Int.toNat_natCast, hs] at this
  rw [this, ← made_two n]
  rfl
set_option maxHeartbeats 1000000 in
theorem stNew (n : Nat) (w : World) (hn : n ≤ 65536) : Calls Try.prog 108 #[.int .i64 (n : Int)] w fun e w' => ∃ b g, e = .returned (.pointer (some ⟨b, 0, none⟩)) ∧ StL w' b g (List.replicate n (0, 0)) 0 ∧ w.heap.size ≤ b ∧ b < w'.heap.size ∧ w.heap.size ≤ g ∧ g < w'.heap.size ∧ Grows w w' := by
  have mk := run_makeSt n (by omega)
  go_enter Try.func108, Try.ntmps108
  go_wp2_with fail
  go_ret
  refine ⟨w.heap.size + 1, w.heap.size, rfl, ⟨⟨?_⟩, Row1.grow (Arr.row (Arr.make _ _ _) (by simp [scs_len]) (by simp; omega)) ((Grows.refl _).new _)⟩, by omega, by simp, by omega, by simp; omega, GG⟩
  simp [heap_push, Array.getElem_push]
set_option maxHeartbeats 1000000 in
theorem bitsNew (n : Nat) (w : World) (hn : n ≤ 65536) : Calls Try.prog 132 #[.int .i64 (n : Int)] w fun e w' => ∃ b g, e = .returned (.pointer (some ⟨b, 0, none⟩)) ∧ BtAt w' b g n (List.replicate ((n + 63) / 64) 0) ∧ w.heap.size ≤ b ∧ b < w'.heap.size ∧ w.heap.size ≤ g ∧ g < w'.heap.size ∧ Grows w w' := by
  obtain ⟨q, hq⟩ : ∃ q, (n + 63) / 64 = q := ⟨_, rfl⟩
  have hqi : ((n : Int) + 63) / 64 = (q : Int) := by omega
  have hqi2 : ((n : Int) + 64 - 1) / 64 = (q : Int) := by omega
  have hqb : q ≤ 65536 := by omega
  have hroom : n ≤ q * 64 := by omega
  have mk := run_makeU64s q (by omega)
  have HQ := hide hq
  clear hq
  go_enter Try.func132, Try.ntmps132
  go_wp2_with fail
  go_ret
  rw [HQ.out]
  have e0 : wv (List.replicate q 0) = List.replicate q (Value.int .u64 0) := by simp [wv]
  have e1 : (List.replicate q 0).length = q := List.length_replicate
  refine ⟨w.heap.size + 1, w.heap.size, rfl, ⟨⟨?_⟩, ?_, by rw [e1]; exact hroom, fun j hj => ?_⟩, by omega, by simp, by omega, by simp; omega, GG⟩
  · simp [heap_push, Array.getElem_push]
  · rw [e1, e0]
    have h : Arr (w.alloc (.cells (List.replicate q (Value.int .u64 0)).toArray 38)) w.heap.size 38 (List.replicate q (Value.int .u64 0)) := Arr.make _ _ _
    have := h.row (n := q) (size := 1) (by simp) (by omega)
    simp only [List.toArray_replicate] at this
    exact this.grow ((Grows.refl _).new _)
  · rw [gn_rep]; omega
theorem hasW_rep (q j : Nat) : hasW (List.replicate q 0) j = false := by unfold hasW; rw [gn_rep]; simp
def OfAt (w : World) (b g n : Nat) (l : List Int) (k : Nat) (wr : World) : Prop :=
  ∃ y : Later w, wr = y.now ∧ ∃ W, BtAt y.now b g n W ∧ ∀ j, j < n → hasW W j = decide ((j : Int) ∈ l.take k)
set_option maxRecDepth 20000 in
set_option maxHeartbeats 2000000 in
theorem bitsOf (n : Nat) (A : Option Addr) (m c : Nat) (l : List Int) (w : World) (h : Rd w A 1 m (l.map (.int .i64))) (hn : n ≤ 65536) (hm : m ≤ 1000000) :
    Calls Try.prog 107 #[.int .i64 (n : Int), .slice A m c] w fun e w' => ∃ b g W, e = .returned (.pointer (some ⟨b, 0, none⟩)) ∧ BtAt w' b g n W ∧ (∀ j, j < n → hasW W j = decide ((j : Int) ∈ l)) ∧ w.heap.size ≤ b ∧ b < w'.heap.size ∧ w.heap.size ≤ g ∧ g < w'.heap.size ∧ Grows w w' := by
  have hl : l.length = m := by simpa using h.len
  have HL := hide hl
  have HR := hide h
  have C := hide (fun (W : World) => bitsNew n W hn)
  clear h hl
  go_enter Try.func107, Try.ntmps107
  go_wp2_with (go_at_call 132; refine (C.out _).mono ?_; rintro e w' ⟨b, g, rfl, hb, h1, h2, h3, h4, hg⟩; obtain ⟨x, rfl⟩ := hg.later; have HB := hide hb; have HG := hide hg; clear hb hg)
  have H0 : Hid (OfAt w b g n l 0 x.now) := ⟨x, rfl, _, HB.out, fun j hj => by rw [hasW_rep]; simp⟩
  clear HB
  go_loopw [15] (fun s wr => ∃ k : Nat, k ≤ m ∧ s = .int .i64 (k : Int) ∧ OfAt w b g n l k wr) (fun s _ => m - (Go.RowKit.intOf s).toNat)
  case atStart => exact ⟨0, by omega, by go_num, H0.out⟩
  case round =>
    obtain ⟨k, hk, rfl, y, rfl, W, hb, hW⟩ := hrel
    have HW := hide hW
    have HB := hide hb
    clear hW hb H0
    by_cases hlt : k < m
    · obtain ⟨bb, off, rfl, hc⟩ := HR.out.intsH (by omega)
      have c1 := hc k hlt
      have CA := hide (fun (W1 : World) (hg : Grows y.now W1) => bitsAdd b g n W (gi l k) W1 (HB.out.grow hg) hn)
      have HGI : Hid (l.take (k + 1) = l.take k ++ [gi l k]) := by
        have hkl : k < l.length := by rw [HL.out]; exact hlt
        show _ = _
        rw [List.take_succ_eq_append_getElem hkl]
        simp [gi, hkl]
      clear hc
      generalize gi l k = i at *
      go_wp2_with (go_at_call 133; refine (CA.out _ GG).mono ?_; rintro e w' ⟨r, W', rfl, hb', hW', ht⟩; have HB' := hide hb'; have HW' := hide hW'; have HT := hide ht; clear hb' hW' ht)
      have hl2 : Grows w w' := HT.out.later y.grows (fun k hk => by rw [hk]; exact h3)
      go_roundw
      case rel =>
        refine ⟨k + 1, by omega, by go_num, ⟨w', hl2⟩, rfl, W', HB'.out, fun j hj => ?_⟩
        rw [HW'.out j hj, HW.out j hj, HGI.out]
        apply bool_ext
        simp
      case measure => simp [Go.RowKit.intOf]; omega
    · have hkm : l.take k = l := List.take_of_length_le (by rw [HL.out]; omega)
      have HW2 := HW.out
      rw [hkm] at HW2
      have HWE := hide HW2
      clear HW2 hkm
      go_wp2_with fail
      go_ret
      have hsz : b < y.now.heap.size := HB.out.row.lt
      have hsg : g < y.now.heap.size := HB.out.words.lt
      exact ⟨b, g, W, rfl, HB.out, HWE.out, h1, hsz, h3, hsg, y.grows⟩
def NewHp (w : World) (b g n k : Nat) (wr : World) : Prop :=
  ∃ y : Later w, wr = y.now ∧ Arr y.now b 186 [.slice none 0 0, .slice (some ⟨g, 0, none⟩) n n] ∧ ∃ T : List Int, Row1 y.now g 3 1 n n (T.map (.int .i64)) ∧ ∀ j, j < k → gz T j = -1
set_option maxRecDepth 20000 in
set_option maxHeartbeats 2000000 in
theorem hpNew (n : Nat) (w : World) (hn : n ≤ 65536) : Calls Try.prog 109 #[.int .i64 (n : Int)] w fun e w' => ∃ b T, e = .returned (.pointer (some ⟨b, 0, none⟩)) ∧ HpAt w' (New w w') b ⟨[], T⟩ ∧ T.length = n ∧ (∀ j, j < n → gz T j = -1) ∧ w.heap.size ≤ b ∧ Grows w w' := by
  have mk := run_makeInts n (by omega)
  go_enter Try.func109, Try.ntmps109
  go_wp2_with fail
  have H0 : Hid (NewHp w (w.heap.size + 1) w.heap.size n 0 ((w.alloc (.cells (List.replicate n (Value.int .i64 0)).toArray 3)).alloc (.cells #[.slice none 0 0, .slice (some ⟨w.heap.size, 0, none⟩) n n] 186))) := by
    refine ⟨⟨_, ((Grows.refl w).new _).new _⟩, rfl, ⟨by simp [heap_push, Array.getElem_push]⟩, List.replicate n 0, ?_, fun j hj => absurd hj (by omega)⟩
    have h : Arr (w.alloc (.cells (List.replicate n (Value.int .i64 0)).toArray 3)) w.heap.size 3 (List.replicate n (Value.int .i64 0)) := Arr.make _ _ _
    have h2 := h.row (n := n) (size := 1) (by simp) (by omega)
    rw [List.map_replicate]
    exact h2.grow ((Grows.refl _).new _)
  simp only [List.toArray_replicate] at H0
  have hbb : w.heap.size ≤ w.heap.size + 1 := by omega
  generalize hb : w.heap.size + 1 = b at *
  go_loopw [20] (fun s wr => ∃ k : Nat, k ≤ n ∧ s = .int .i64 (k : Int) ∧ NewHp w b w.heap.size n k wr) (fun s _ => n - (Go.RowKit.intOf s).toNat)
  case atStart => exact ⟨0, by omega, by go_num, H0.out⟩
  case round =>
    obtain ⟨k, hk, rfl, y, rfl, ha, T, ht, hT⟩ := hrel
    have HT := hide hT
    have HR := hide ht
    have HA := hide ha
    clear hT ht H0
    by_cases hlt : k < n
    · have m0 := HR.out.int (j := k) hlt
      go_wp2_with fail
      go_roundw
      case rel =>
        refine ⟨k + 1, by omega, by go_num, ⟨_, y.grows.set (Nat.le_refl _) _⟩, rfl, HA.out.other (HR.out.ne HA.out (by decide)) _, T.set k (-1), ?_, fun j hj => ?_⟩
        · rw [List.map_set]; exact HR.out.set _ _
        · have hl := HR.out.len
          simp at hl
          unfold gz
          by_cases he : j = k
          · subst he; simp [show j < T.length by omega]
          · have := HT.out j (by omega)
            unfold gz at this
            rw [List.getD_eq_getElem?_getD, List.getElem?_set_ne (Ne.symm he), ← List.getD_eq_getElem?_getD]
            exact this
      case measure => simp [Go.RowKit.intOf]; omega
    · go_wp2_with fail
      go_ret
      have hl := HR.out.len
      simp at hl
      obtain rfl : k = n := by omega
      refine ⟨b, T, rfl, ⟨none, 0, w.heap.size, ?_, Own.nil _ _ _ _, ?_, ⟨hbb, HA.out.lt⟩, ⟨Nat.le_refl _, HR.out.lt⟩, fun p hp => by cases hp⟩, by omega, HT.out, hbb, y.grows⟩
      · show Arr _ _ _ [.slice none 0 0, .slice (some ⟨w.heap.size, 0, none⟩) T.length T.length]
        rw [show T.length = k by omega]
        exact HA.out
      · rw [show T.length = k by omega]
        exact HR.out
end Go.Proofs.Ytomednfddpggaaa

/- Contracts: what a search works with; does an edge count; a node is so far. -/
namespace Go.Proofs.Ytomednfddpggaaa
open Go Go.RowKit
section
variable {w : World} {g : Nat} {t : TypeId}
instance Arr.m6 {v0 v1 v2 v3 v4 v5 v : Value} {l : List Value} [h : Arr w g t (v0 :: v1 :: v2 :: v3 :: v4 :: v5 :: v :: l)] : Mine w ⟨g, 6, none⟩ v := h.mine 6 rfl
instance Arr.m7 {v0 v1 v2 v3 v4 v5 v6 v : Value} {l : List Value} [h : Arr w g t (v0 :: v1 :: v2 :: v3 :: v4 :: v5 :: v6 :: v :: l)] : Mine w ⟨g, 7, none⟩ v := h.mine 7 rfl
instance Arr.m8 {v0 v1 v2 v3 v4 v5 v6 v7 v : Value} {l : List Value} [h : Arr w g t (v0 :: v1 :: v2 :: v3 :: v4 :: v5 :: v6 :: v7 :: v :: l)] : Mine w ⟨g, 8, none⟩ v := h.mine 8 rfl
instance Arr.m9 {v0 v1 v2 v3 v4 v5 v6 v7 v8 v : Value} {l : List Value} [h : Arr w g t (v0 :: v1 :: v2 :: v3 :: v4 :: v5 :: v6 :: v7 :: v8 :: v :: l)] : Mine w ⟨g, 9, none⟩ v := h.mine 9 rfl
instance Arr.m10 {v0 v1 v2 v3 v4 v5 v6 v7 v8 v9 v : Value} {l : List Value} [h : Arr w g t (v0 :: v1 :: v2 :: v3 :: v4 :: v5 :: v6 :: v7 :: v8 :: v9 :: v :: l)] : Mine w ⟨g, 10, none⟩ v := h.mine 10 rfl
end
structure Srch where
  N : Nat
  E : List Edg
  back : Bool
  most : Nat
  W : List Nat
  nn : Nat → Bool
  ne : Nat → Bool
def SrAt (F : Nat → Prop) (w : World) (x : Srch) (bx bf bh : Nat) : Prop :=
  ∃ ba o1 o2 o3 Aw cw bn be gn' ge' Wn We, Arr w bx 161 [.pointer (some ⟨ba, 0, none⟩), .bool x.back, o1, o2, o3, .int .u64 (x.most : Int), .slice Aw x.E.length cw, .pointer (some ⟨bn, 0, none⟩), .pointer (some ⟨be, 0, none⟩), .pointer (some ⟨bf, 0, none⟩), .pointer (some ⟨bh, 0, none⟩)] ∧
    AdjAt F w ba x.N x.E ∧ (Rd w Aw 1 x.E.length (wv x.W) ∧ ∀ p, Aw = some p → F p.block) ∧ (BtAt w bn gn' x.N Wn ∧ ∀ j, j < x.N → hasW Wn j = x.nn j) ∧ (BtAt w be ge' x.E.length We ∧ ∀ j, j < x.E.length → hasW We j = x.ne j) ∧ (F bx ∧ F bn ∧ F gn' ∧ F be ∧ F ge')
theorem BtAt.touch {w w' : World} {b g n : Nat} {W : List Nat} {S : Nat → Prop} (h : BtAt w b g n W) (ht : Touch S w w') (h1 : ¬ S b) (h2 : ¬ S g) : BtAt w' b g n W := ⟨h.row.touch ht h1, h.words.touch ht h2, h.room, h.small⟩
theorem SrAt.touch {F S : Nat → Prop} {w w' : World} {x : Srch} {bx bf bh : Nat} (h : SrAt F w x bx bf bh) (ht : Touch S w w') (hs : ∀ k, F k → ¬ S k) : SrAt F w' x bx bf bh := by
  obtain ⟨ba, o1, o2, o3, Aw, cw, bn, be, g1, g2, Wn, We, h1, h2, ⟨h3, h4⟩, ⟨h5, h6⟩, ⟨h7, h8⟩, f1, f2, f3, f4, f5⟩ := h
  exact ⟨ba, o1, o2, o3, Aw, cw, bn, be, g1, g2, Wn, We, h1.touch ht (hs _ f1), h2.touch ht hs, ⟨h3.touch ht (fun p hp => hs _ (h4 p hp)), h4⟩, ⟨h5.touch ht (hs _ f2) (hs _ f3), h6⟩, ⟨h7.touch ht (hs _ f4) (hs _ f5), h8⟩, f1, f2, f3, f4, f5⟩
theorem SrAt.grow {F : Nat → Prop} {w w' : World} {x : Srch} {bx bf bh : Nat} (h : SrAt F w x bx bf bh) (hg : Grows w w') : SrAt F w' x bx bf bh := h.touch (hg.touch (fun _ => False)) (fun _ _ => id)
def DjAt (F S : Nat → Prop) (w : World) (x : Srch) (bx : Nat) (L : List (Nat × Nat)) (s : HS) : Prop :=
  ∃ bf gf bh S2, SrAt F w x bx bf bh ∧ (∃ m, StL w bf gf L m) ∧ HpAt w S2 bh s ∧ (S bf ∧ S gf ∧ (∀ k, S2 k → S k ∧ ¬ (k = bf ∨ k = gf))) ∧ (∀ k, F k → ¬ S k ∧ k < w.heap.size) ∧ (∀ k, S k → k < w.heap.size) ∧ L.length = x.N ∧ s.In x.N
theorem DjAt.touch {F S S' : Nat → Prop} {w w' : World} {x : Srch} {bx : Nat} {L : List (Nat × Nat)} {s : HS} (h : DjAt F S w x bx L s) (ht : Touch S' w w') (h1 : ∀ k, F k → ¬ S' k) (h2 : ∀ k, S k → ¬ S' k) : DjAt F S w' x bx L s := by
  obtain ⟨bf, gf, bh, S2, q1, ⟨m, q2⟩, q3, ⟨q4, q5, q6⟩, q7, q8, q9, q10⟩ := h
  exact ⟨bf, gf, bh, S2, q1.touch ht h1, ⟨m, q2.touch ht (h2 _ q4) (h2 _ q5)⟩, q3.touch ht (fun k hk => h2 k (q6 k hk).1), ⟨q4, q5, q6⟩, fun k hk => ⟨(q7 k hk).1, Nat.lt_of_lt_of_le (q7 k hk).2 ht.size⟩, fun k hk => Nat.lt_of_lt_of_le (q8 k hk) ht.size, q9, q10⟩
theorem DjAt.grow {F S : Nat → Prop} {w w' : World} {x : Srch} {bx : Nat} {L : List (Nat × Nat)} {s : HS} (h : DjAt F S w x bx L s) (hg : Grows w w') : DjAt F S w' x bx L s := h.touch (hg.touch (fun _ => False)) (fun _ _ => id) (fun _ _ => id)
set_option maxHeartbeats 1000000 in
theorem djCounts (F : Nat → Prop) (x : Srch) (bx bf bh e v : Nat) (w : World) (h : SrAt F w x bx bf bh) (he : e < x.E.length) (hv : v < x.N) (hE : x.E.length ≤ 65536) (hN : x.N ≤ 65536) :
    Calls Try.prog 138 #[.pointer (some ⟨bx, 0, none⟩), .int .i64 (e : Int), .int .i64 (v : Int)] w fun e' w' => e' = .returned (.bool (!x.ne e && !x.nn v)) ∧ w = w' := by
  obtain ⟨ba, o1, o2, o3, Aw, cw, bn, be, g1, g2, Wn, We, h1, _, _, ⟨h5, h6⟩, ⟨h7, h8⟩, _⟩ := h
  have C1 := hide (bitsHasIn be g2 x.E.length We e w h7 he hE)
  have C2 := hide (bitsHasIn bn g1 x.N Wn v w h5 hv hN)
  rw [h8 e he] at C1
  rw [h6 v hv] at C2
  clear h5 h6 h7 h8
  cases hq : x.ne e with
  | true =>
    rw [hq] at C1
    clear hq C2
    go_enter Try.func138, Try.ntmps138
    go_wp2_with (go_at_call 110; refine (C1.out).mono ?_; rintro e w' ⟨rfl, rfl⟩)
    go_ret
    exact ⟨rfl, rfl⟩
  | false =>
    rw [hq] at C1
    clear hq
    generalize x.nn v = q at *
    go_enter Try.func138, Try.ntmps138
    go_wp2_with fail
    refine (C1.out).mono ?_; rintro e w' ⟨rfl, rfl⟩
    go_wp2_with fail
    refine (C2.out).mono ?_; rintro e w' ⟨rfl, rfl⟩
    go_wp2_with fail
    go_ret
    exact ⟨by simp, rfl⟩
def reachS (most : Nat) (st : List (Nat × Nat) × HS) (v f : Nat) : List (Nat × Nat) × HS :=
  if 0 < most ∧ most < f then st else if lessB (stD st.1 v) f then (st.1.set v (f, 1), (st.2.put v f).1) else st
def HOk (s : HS) (N : Nat) : Prop := (∀ v, v < N → gz s.T v = -1 ∨ 0 ≤ gz s.T v ∧ gz s.T v < s.L.length) ∧ s.L.length ≤ 90000
theorem put_keep_in {s : HS} {N v f : Nat} (h : s.In N) (hk : HOk s N) (hv : v < N) : (s.put v f).1.In N := by
  unfold HS.put
  split
  · exact HS.rise_in (put_in h hv) _ _ hv (by simp)
  · split
    · exact h
    · rename_i h1 _
      have := hk.1 v hv
      exact HS.rise_in h _ _ hv (by omega)
def GiveReach (F S : Nat → Prop) (w : World) (x : Srch) (bx : Nat) (st : List (Nat × Nat) × HS) (e : Ending) (w' : World) : Prop :=
  e = .returned (.tuple #[]) ∧ DjAt F (fun k => S k ∨ New w w' k) w' x bx st.1 st.2 ∧ Touch S w w'
theorem DjAt.more {F S : Nat → Prop} {w w' : World} {x : Srch} {bx : Nat} {L : List (Nat × Nat)} {s : HS} (h : DjAt F S w x bx L s) (hg : Grows w w') : DjAt F (fun k => S k ∨ New w w' k) w' x bx L s := by
  obtain ⟨bf, gf, bh, S2, q1, ⟨m, q2⟩, q3, ⟨q4, q5, q6⟩, q7, q8, q9, q10⟩ := h
  refine ⟨bf, gf, bh, S2, q1.grow hg, ⟨m, q2.grow hg⟩, q3.grow hg, ⟨.inl q4, .inl q5, fun k hk => ⟨.inl (q6 k hk).1, (q6 k hk).2⟩⟩, fun k hk => ⟨fun e => ?_, Nat.lt_of_lt_of_le (q7 k hk).2 hg.size⟩, fun k hk => ?_, q9, q10⟩
  · rcases e with e | ⟨e, _⟩
    · exact (q7 k hk).1 e
    · have := (q7 k hk).2; omega
  · rcases hk with e | ⟨_, e⟩
    · exact Nat.lt_of_lt_of_le (q8 k e) hg.size
    · exact e
theorem reach_put {F S S2 : Nat → Prop} {w w1 w2 : World} {x : Srch} {bx bf gf bh : Nat} {L' : List (Nat × Nat)} {s' : HS} {m' : Int} (q1 : SrAt F w x bx bf bh) (q4 : S bf) (q5 : S gf) (q6 : ∀ k, S2 k → S k ∧ ¬ (k = bf ∨ k = gf)) (q7 : ∀ k, F k → ¬ S k ∧ k < w.heap.size) (q8 : ∀ k, S k → k < w.heap.size)
    (ht1 : Touch (fun k => k = bf ∨ k = gf) w w1) (hs1 : StL w1 bf gf L' m') (hp2 : HpAt w2 (fun k => S2 k ∨ New w1 w2 k) bh s') (ht2 : Touch S2 w1 w2) (hl : L'.length = x.N) (hi : s'.In x.N) : DjAt F (fun k => S k ∨ New w w2 k) w2 x bx L' s' ∧ Touch S w w2 := by
  have hF1 : ∀ k, F k → ¬ (k = bf ∨ k = gf) := fun k hk e => by
    rcases e with rfl | rfl
    · exact (q7 _ hk).1 q4
    · exact (q7 _ hk).1 q5
  have hF2 : ∀ k, F k → ¬ S2 k := fun k hk e => (q7 k hk).1 (q6 k e).1
  have z1 := ht1.size
  have z2 := ht2.size
  refine ⟨⟨bf, gf, bh, fun k => S2 k ∨ New w1 w2 k, (q1.touch ht1 hF1).touch ht2 hF2, ⟨m', hs1.touch ht2 (fun e => (q6 _ e).2 (.inl rfl)) (fun e => (q6 _ e).2 (.inr rfl))⟩, hp2, ⟨.inl q4, .inl q5, fun k hk => ?_⟩, fun k hk => ⟨fun e => ?_, ?_⟩, fun k hk => ?_, hl, hi⟩, ?_⟩
  · rcases hk with hk | ⟨hk, hk2⟩
    · exact ⟨.inl (q6 k hk).1, (q6 k hk).2⟩
    · refine ⟨.inr ⟨by omega, hk2⟩, fun e => ?_⟩
      have h1 := q8 _ q4
      have h2 := q8 _ q5
      rcases e with rfl | rfl <;> omega
  · rcases e with e | ⟨e, _⟩
    · exact (q7 k hk).1 e
    · have := (q7 k hk).2; omega
  · have := (q7 k hk).2; omega
  · rcases hk with e | ⟨_, e⟩
    · have := q8 k e; omega
    · exact e
  · refine (ht1.mono fun k hk => ?_).trans (ht2.mono fun k hk => (q6 k hk).1)
    rcases hk with rfl | rfl
    · exact q4
    · exact q5
set_option maxRecDepth 20000 in
set_option maxHeartbeats 4000000 in
theorem djReach (F S : Nat → Prop) (x : Srch) (bx v f : Nat) (L : List (Nat × Nat)) (s : HS) (w : World) (h : DjAt F S w x bx L s) (hv : v < x.N) (hk : HOk s x.N) (hm : x.most < 18446744073709551616) :
    Calls Try.prog 111 #[.pointer (some ⟨bx, 0, none⟩), .int .i64 (v : Int), .int .u64 (f : Int)] w (GiveReach F S w x bx (reachS x.most (L, s) v f)) := by
  have HD := hide h
  obtain ⟨bf, gf, bh, S2, q1, ⟨m, q2⟩, q3, ⟨q4, q5, q6⟩, q7, q8, q9, q10⟩ := h
  have Q1 := hide q1
  have Q6 := hide q6
  have Q7 := hide q7
  have Q8 := hide q8
  have Q9 := hide q9
  have HIP : Hid ((s.put v f).1.In x.N) := put_keep_in q10 hk hv
  have Q10 := hide q10
  obtain ⟨ba, o1, o2, o3, Aw, cw, bn, be, g1, g2, Wn, We, h1, _, _, _, _, f1, _⟩ := q1
  have hne : ¬ (bx = bf ∨ bx = gf) := fun e => by
    rcases e with rfl | rfl
    · exact (q7 _ f1).1 q4
    · exact (q7 _ f1).1 q5
  have HNE := hide hne
  have CL := hide (stLeast bf gf L m v f w q2 (by omega))
  have HS2 := hide q3
  have HR : Hid (reachS x.most (L, s) v f = if 0 < x.most ∧ x.most < f then (L, s) else if lessB (stD L v) f then (L.set v (f, 1), (s.put v f).1) else (L, s)) := rfl
  have CP := hide (fun (W : World) (hq : HpAt W S2 bh s) (hs : w.heap.size ≤ W.heap.size) => hpPut bh x.N s v f S2 W hq (fun k hk => Nat.lt_of_lt_of_le (q8 k (q6 k hk).1) hs) q10 hv (hk.1 v hv) hk.2)
  have hS2n : ∀ k, S2 k → ¬ (k = bf ∨ k = gf) := fun k hk => (q6 k hk).2
  have HSN := hide hS2n
  clear q2 q3 q6 q7 q8 q9 q10 hk hne hS2n
  by_cases hc : 0 < x.most ∧ x.most < f
  · rw [if_pos hc] at HR
    have d1 : decide ((0 : Int) < (x.most : Int)) = true := decide_eq_true (by omega)
    have d2 : decide ((x.most : Int) < (f : Int)) = true := decide_eq_true (by omega)
    have d3 : decide (0 < x.most) = true := decide_eq_true hc.1
    have d4 : decide (x.most < f) = true := decide_eq_true hc.2
    clear hc
    generalize x.most = mo at *
    go_enter Try.func111, Try.ntmps111
    go_wp2_with fail
    refine bodyPost_ret (results_none rfl _ _ _) rfl ?_
    rw [HR.out]
    exact ⟨rfl, HD.out.more (Grows.refl _), Touch.refl _ _⟩
  · rw [if_neg hc] at HR
    have hc2 : x.most = 0 ∨ (0 < x.most ∧ f ≤ x.most) := by omega
    clear hc
    cases hr : lessB (stD L v) f with
    | true =>
      rw [hr] at CL HR
      clear hr
      rcases hc2 with hc2 | ⟨hc2, hc3⟩
      · have d1 : decide ((0 : Int) < (x.most : Int)) = false := decide_eq_false (by omega)
        have d3 : decide (0 < x.most) = false := decide_eq_false (by omega)
        clear hc2
        generalize x.most = mo at *
        go_enter Try.func111, Try.ntmps111
        go_wp2_with (first
          | (go_at_call 135; refine (CL.out).mono ?_; rintro e w1 ⟨rfl, ⟨m', hs1⟩, ht1⟩; have ha := h1.touch ht1 HNE.out; have HS1 := hide hs1; have HT1 := hide ht1; have HP1 := hide (HS2.out.touch ht1 HSN.out); clear hs1 ht1)
          | (go_at_call 136; refine (CP.out _ HP1.out HT1.out.size).mono ?_; rintro e w2 ⟨rfl, hp2, ht2⟩; have HP2 := hide hp2; have HT2 := hide ht2; clear hp2 ht2))
        all_goals
          go_end0
          rw [HR.out]
          have hz := reach_put Q1.out q4 q5 Q6.out Q7.out Q8.out HT1.out HS1.out HP2.out HT2.out (by simp; exact Q9.out) HIP.out
          exact ⟨rfl, hz.1, hz.2⟩
      · have d1 : decide ((0 : Int) < (x.most : Int)) = true := decide_eq_true (by omega)
        have d3 : decide (0 < x.most) = true := decide_eq_true hc2
        have d2 : decide ((x.most : Int) < (f : Int)) = false := decide_eq_false (by omega)
        have d4 : decide (x.most < f) = false := decide_eq_false (by omega)
        clear hc2 hc3
        generalize x.most = mo at *
        go_enter Try.func111, Try.ntmps111
        go_wp2_with (first
          | (go_at_call 135; refine (CL.out).mono ?_; rintro e w1 ⟨rfl, ⟨m', hs1⟩, ht1⟩; have ha := h1.touch ht1 HNE.out; have HS1 := hide hs1; have HT1 := hide ht1; have HP1 := hide (HS2.out.touch ht1 HSN.out); clear hs1 ht1)
          | (go_at_call 136; refine (CP.out _ HP1.out HT1.out.size).mono ?_; rintro e w2 ⟨rfl, hp2, ht2⟩; have HP2 := hide hp2; have HT2 := hide ht2; clear hp2 ht2))
        all_goals
          go_end0
          rw [HR.out]
          have hz := reach_put Q1.out q4 q5 Q6.out Q7.out Q8.out HT1.out HS1.out HP2.out HT2.out (by simp; exact Q9.out) HIP.out
          exact ⟨rfl, hz.1, hz.2⟩
    | false =>
      rw [hr] at CL HR
      clear hr CP
      rcases hc2 with hc2 | ⟨hc2, hc3⟩
      · have d1 : decide ((0 : Int) < (x.most : Int)) = false := decide_eq_false (by omega)
        have d3 : decide (0 < x.most) = false := decide_eq_false (by omega)
        clear hc2
        generalize x.most = mo at *
        go_enter Try.func111, Try.ntmps111
        go_wp2_with (go_at_call 135; refine (CL.out).mono ?_; rintro e w1 ⟨rfl, ⟨m', hs1⟩, ht1⟩; have ha := h1.touch ht1 HNE.out; have HS1 := hide hs1; have HT1 := hide ht1; have HP1 := hide (HS2.out.touch ht1 HSN.out); clear hs1 ht1)
        all_goals
          go_end0
          rw [HR.out]
          have hz := reach_put (S2 := S2) Q1.out q4 q5 Q6.out Q7.out Q8.out HT1.out HS1.out (HP1.out.mono (fun k hk => .inl hk)) (Touch.refl S2 _) Q9.out Q10.out
          exact ⟨rfl, hz.1, hz.2⟩
      · have d1 : decide ((0 : Int) < (x.most : Int)) = true := decide_eq_true (by omega)
        have d3 : decide (0 < x.most) = true := decide_eq_true hc2
        have d2 : decide ((x.most : Int) < (f : Int)) = false := decide_eq_false (by omega)
        have d4 : decide (x.most < f) = false := decide_eq_false (by omega)
        clear hc2 hc3
        generalize x.most = mo at *
        go_enter Try.func111, Try.ntmps111
        go_wp2_with (go_at_call 135; refine (CL.out).mono ?_; rintro e w1 ⟨rfl, ⟨m', hs1⟩, ht1⟩; have ha := h1.touch ht1 HNE.out; have HS1 := hide hs1; have HT1 := hide ht1; have HP1 := hide (HS2.out.touch ht1 HSN.out); clear hs1 ht1)
        all_goals
          go_end0
          rw [HR.out]
          have hz := reach_put (S2 := S2) Q1.out q4 q5 Q6.out Q7.out Q8.out HT1.out HS1.out (HP1.out.mono (fun k hk => .inl hk)) (Touch.refl S2 _) Q9.out Q10.out
          exact ⟨rfl, hz.1, hz.2⟩
end Go.Proofs.Ytomednfddpggaaa

/- A search's trace: the nodes in the order in which a search takes them. -/
namespace Go.Proofs.Ytomednfddpggaaa
open Go Go.RowKit
def toE (x : Srch) (i : Nat) : Nat := if x.back then fN x.E i else tN x.E i
abbrev St := List (Nat × Nat) × HS
def stepE (x : Srch) (f : Nat) (st : St) (i : Nat) : St := if (!x.ne i && !x.nn (toE x i)) = true then reachS x.most st (toE x i) (f + gn x.W i) else st
def stepK (x : Srch) (f : Nat) (st : St) (l : List Nat) : St := l.foldl (stepE x f) st
def rowX (x : Srch) (v : Nat) : List Nat := rowN (nN x.E x.back) x.E.length v
theorem stepK_snoc (x : Srch) (f : Nat) (st : St) (l : List Nat) (i : Nat) : stepK x f st (l ++ [i]) = stepE x f (stepK x f st l) i := by simp [stepK, List.foldl_append]
structure StepOk (x : Srch) (st : St) (v f : Nat) : Prop where
  top : gi2 st.2.L 0 = (v, f)
  pos : 0 < st.2.L.length
  lies : ∃ i : Nat, gz st.2.T v = (i : Int) ∧ i < st.2.L.length
  len : st.2.L.length ≤ 90000
  rounds : ∀ l r, rowX x v = l ++ r → HOk (stepK x f (st.1, st.2.drop v) l).2 x.N
  far : ∀ i, i < x.E.length → f + gn x.W i < 18446744073709551616
inductive Trace (x : Srch) : St → List (Nat × Nat) → Prop
  | done {st : St} : st.2.L.length = 0 → Trace x st []
  | step {st : St} {v f : Nat} {xs : List (Nat × Nat)} : StepOk x st v f → Trace x (stepK x f (st.1, st.2.drop v) (rowX x v)) xs → Trace x st ((v, f) :: xs)
structure SrchOk (x : Srch) : Prop where
  ends : InN x.N x.E
  edges : x.E.length ≤ 65536
  nodes : x.N ≤ 65536
  wts : x.W.length = x.E.length
  most : x.most < 18446744073709551616
def encD (p : Nat × Nat) : Array Value := #[.int .i64 (p.1 : Int), .int .u64 (p.2 : Int)]
theorem drop_all_in {s : HS} {N v i : Nat} (h : s.In N) (hz : gz s.T v = (i : Int)) (hi : i < s.L.length) : (s.drop v).In N := by
  unfold HS.drop
  rw [hz, Int.toNat_natCast]
  have hx : (gi2 s.L (s.L.length - 1)).1 < N := h.2 _ (by omega)
  by_cases he : i = s.L.length - 1
  · rw [if_pos he]
    exact drop_in h v
  · rw [if_neg he]
    have h1 := HS.sink_in (drop_in (last := s.L.length - 1) h v) i (gi2 s.L (s.L.length - 1)) hx
    by_cases h2 : gz ((⟨s.L.take (s.L.length - 1), s.T.set v (-1)⟩ : HS).sink i (gi2 s.L (s.L.length - 1))).T (gi2 s.L (s.L.length - 1)).1 = (i : Int)
    · show HS.In (if _ then _ else _) N
      rw [if_pos h2]
      refine HS.rise_in h1.1 _ _ hx ?_
      rw [h1.2]
      simp
      omega
    · show HS.In (if _ then _ else _) N
      rw [if_neg h2]
      exact h1.1
end Go.Proofs.Ytomednfddpggaaa
