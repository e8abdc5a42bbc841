/- Contracts: the top; what is taken out. -/
import Derived.Test.YtpnncadglhlclaaHeapPut
namespace Go.Proofs.Ytpnncadglhlclaa
open Go Go.RowKit
theorem hpLen (b : Nat) (A : Option Addr) (n c : Nat) (u : Value) (w : World) (h : Arr w b 207 [.slice A n c, u]) : Calls Try.prog 182 #[.pointer (some ⟨b, 0, none⟩)] w fun e w' => e = .returned (.int .i64 (n : Int)) ∧ w = w' := by
  go_enter Try.func182, Try.ntmps182
  go_wp2
  go_ret
  exact ⟨rfl, rfl⟩
theorem hpWhere (b : Nat) (A : Option Addr) (n c G N v : Nat) (T : List Int) (w : World) (h : Arr w b 207 [.slice A n c, .slice (some ⟨G, 0, none⟩) N N]) (ht : Row1 w G 3 1 N N (T.map (.int .i64))) (hv : v < N) :
    Calls Try.prog 183 #[.pointer (some ⟨b, 0, none⟩), .int .i64 (v : Int)] w fun e w' => e = .returned (.int .i64 (gz T v)) ∧ w = w' := by
  have m0 : Mine w ⟨G, v, none⟩ (.int .i64 (gz T v)) := ht.int hv
  clear ht
  go_enter Try.func183, Try.ntmps183
  go_wp2
  go_ret
  exact ⟨rfl, rfl⟩
theorem Own.cut {w : World} {B n c m size : Nat} {e : TypeId} {A : Option Addr} {xs : List Value} (h : Own w B e size A n c xs) (hm : m ≤ n) (hn : 0 < n) : Own w B e size A m c (xs.take (m * size)) := by
  obtain ⟨g, cur, rfl, hB, hh, hc, hs, ht⟩ := h.at_ hn
  have hl := h.len
  have hmm : m * size ≤ n * size := Nat.mul_le_mul_right _ hm
  have hcm : c ≤ maxLen := by
    rcases h.2 with ⟨h1, _⟩ | ⟨g2, cap, cur2, h1, _, _, _, h5, _⟩
    · cases h1
    · injection h1 with _ _ h7; subst h7; exact h5
  refine ⟨by rw [List.length_take]; omega, .inr ⟨g, c, cur, rfl, hB, hh, by omega, hcm, hs, ?_⟩⟩
  rw [← ht, List.take_take]
  congr 1
  omega
theorem its_take (L : List Itm) (m : Nat) : its (L.take m) = (its L).take (m * 2) := by
  induction L generalizing m with
  | nil => simp [its]
  | cons x L ih =>
    cases m with
    | zero => simp [its]
    | succ m =>
      have := ih m
      show itCells x ++ its (L.take m) = (itCells x ++ its L).take ((m + 1) * 2)
      have e1 : List.take ((m + 1) * 2) (itCells x) = itCells x := List.take_of_length_le (by show 2 ≤ _; omega)
      have e2 : (m + 1) * 2 - (itCells x).length = m * 2 := by show (m + 1) * 2 - 2 = _; omega
      rw [this, List.take_append, e1, e2]
/-- Behind the first two steps of 'drop'. -/
theorem drop_mid {w Wp : World} {S : Nat → Prop} {b c G v last : Nat} {A : Option Addr} {s : HS} (r1 : Arr w b 207 [.slice A s.L.length c, .slice (some ⟨G, 0, none⟩) s.T.length s.T.length]) (r2 : Own w 0 227 2 A s.L.length c (its s.L))
    (r3 : Row1 w G 3 1 s.T.length s.T.length (s.T.map (.int .i64))) (s1 : S b) (s2 : S G) (h6 : ∀ p, A = some p → S p.block) (hg : Grows (w.setCell ⟨G, v, none⟩ (.int .i64 (-1))) Wp) (hl : last ≤ s.L.length) (h0 : 0 < s.L.length) :
    HpAt (Wp.setCell ⟨b, 0, none⟩ (.slice A last c)) S b ⟨s.L.take last, s.T.set v (-1)⟩ ∧ Touch S w (Wp.setCell ⟨b, 0, none⟩ (.slice A last c)) ∧ Arr Wp b 207 [.slice A s.L.length c, .slice (some ⟨G, 0, none⟩) s.T.length s.T.length] := by
  have n2 := r3.ne r1 (by decide)
  have nb := r2.not_row r3 (by decide)
  have q1 := ((r1.other (p := ⟨G, v, none⟩) n2 (.int .i64 (-1))).grow hg)
  have q2 := ((r2.othr (q := ⟨G, v, none⟩) nb (.int .i64 (-1))).grows hg)
  have q3 := ((r3.set v (.int .i64 (-1))).grow hg)
  have e1 : (s.L.take last).length = last := by simp; omega
  refine ⟨⟨A, c, G, ?_, ?_, ?_, s1, s2, h6⟩, ?_, q1⟩
  · have := q1.set 0 (.slice A last c)
    show Arr _ _ _ [.slice A (s.L.take last).length c, .slice (some ⟨G, 0, none⟩) (s.T.set v (-1)).length (s.T.set v (-1)).length]
    rw [e1, List.length_set]
    exact this
  · have := (q2.cut hl h0).othr (q := ⟨b, 0, none⟩) ((q2.cut hl h0).not_arr q1 (by decide)) (.slice A last c)
    show Own _ _ _ _ _ (s.L.take last).length _ (its (s.L.take last))
    rw [e1, its_take]
    exact this
  · have := q3.other (p := ⟨b, 0, none⟩) (Ne.symm n2) (.slice A last c)
    show Row1 _ _ _ _ (s.T.set v (-1)).length (s.T.set v (-1)).length _
    rw [List.length_set, List.map_set]
    exact this
  · exact ((((Touch.refl S w).set (.inl s2) _).grows hg)).set (.inl s1) _
theorem drop_in {s : HS} {N last : Nat} (h : s.In N) (v : Nat) : (⟨s.L.take last, s.T.set v (-1)⟩ : HS).In N := by
  refine ⟨by simp [h.1], fun i hi => ?_⟩
  simp at hi
  unfold gi2
  rw [List.getD_eq_getElem?_getD, List.getElem?_take, if_pos (by omega), ← List.getD_eq_getElem?_getD]
  exact h.2 i (by omega)
set_option maxRecDepth 20000 in
set_option maxHeartbeats 4000000 in
theorem hpDrop (b N : Nat) (s : HS) (v i : Nat) (S : Nat → Prop) (w : World) (h : HpAt w S b s) (hs : ∀ k, S k → k < w.heap.size) (hin : s.In N) (hv : v < N) (hz : gz s.T v = (i : Int)) (hi : i < s.L.length) (hl : s.L.length ≤ 90000) :
    Calls Try.prog 171 #[.pointer (some ⟨b, 0, none⟩), .int .i64 (v : Int)] w fun e w' => e = .returned (.bool true) ∧ HpAt w' S b (s.drop v) ∧ Touch S w w' := by
  have hbx : ¬ S w.heap.size := fun e => by have := hs _ e; omega
  obtain ⟨A, c, G, r1, r2, r3, r4, r5, r6⟩ := h
  have hT := hin.1
  have m0 : Mine w ⟨G, v, none⟩ (.int .i64 (gz s.T v)) := r3.int (by omega)
  rw [hz] at m0
  have hvT : v < s.T.length := by omega
  have HW := hide (fun W => hpWhere b A s.L.length c G s.T.length v s.T W)
  rw [hz] at HW
  obtain ⟨n, hn⟩ : ∃ n, s.L.length = n + 1 := ⟨s.L.length - 1, by omega⟩
  obtain ⟨g, rfl, m1, m2⟩ := r2.item (i := n) (by omega)
  have HD : Hid (s.drop v = if i = n then ⟨s.L.take n, s.T.set v (-1)⟩ else if gz ((⟨s.L.take n, s.T.set v (-1)⟩ : HS).sink i (gi2 s.L n)).T (gi2 s.L n).1 = (i : Int) then ((⟨s.L.take n, s.T.set v (-1)⟩ : HS).sink i (gi2 s.L n)).rise i (gi2 s.L n) else (⟨s.L.take n, s.T.set v (-1)⟩ : HS).sink i (gi2 s.L n)) := by
    show _ = _
    unfold HS.drop
    rw [hz, hn, Nat.add_sub_cancel, Int.toNat_natCast]
  have hcap : n + 1 ≤ c := by
    obtain ⟨_, _, _, _, _, hc, _⟩ := r2.at_ (by omega)
    omega
  have hb0 : ((i : Int) == -1) = false := beq_eq_false_iff_ne.2 (by omega)
  have n1 := r3.ne r1 (by decide)
  have n3 := r2.not_row r3 (by decide) _ rfl
  have hgG : ¬ G = g := fun e => n3 e.symm
  have HIN := hide hin
  have HI2 : Hid ((⟨s.L.take n, s.T.set v (-1)⟩ : HS).In N) := drop_in hin v
  have HSS := hide hs
  have hxN : (gi2 s.L n).1 < N := hin.2 n (by omega)
  have hiB : i ≤ 90000 := by omega
  have hin1 : i ≤ n := by omega
  have hin0 : 0 < s.L.length := by omega
  have hnl : n ≤ s.L.length := by omega
  have HWW := hide (HW.out w r1 r3 hvT)
  have HMID := hide (fun (Wp : World) (hg : Grows (w.setCell ⟨G, v, none⟩ (.int .i64 (-1))) Wp) => drop_mid (S := S) (v := v) (last := n) r1 r2 r3 r4 r5 r6 hg hnl hin0)
  have p1 := r1.other (p := ⟨G, v, none⟩) n1 (.int .i64 (-1))
  have p2 := m1.set_other (q := ⟨G, v, none⟩) (.int .i64 (-1)) (by intro e; injection e with e; exact hgG e)
  have p3 := m2.set_other (q := ⟨G, v, none⟩) (.int .i64 (-1)) (by intro e; injection e with e; exact hgG e)
  have HN := hide hn
  rw [hn] at p1 hi hl
  have R1 := hide r1
  clear hin hs hz r2 r3 r6 HW hT hn hin0 hnl m1 m2 n1 n3
  by_cases hin2 : i = n
  · subst hin2
    rw [if_pos rfl] at HD
    go_enter Try.func171, Try.ntmps171
    go_wp2_with (go_at_call 183; refine (HWW.out).mono ?_; rintro e w' ⟨rfl, rfl⟩)
    go_ret
    have hm := HMID.out _ ((Grows.refl (w.setCell ⟨G, v, none⟩ (.int .i64 (-1)))).new (.cells #[.int .i64 ((gi2 s.L i).1 : Int), .int .u64 ((gi2 s.L i).2 : Int)] 227))
    exact ⟨rfl, HD.out ▸ hm.1, hm.2.1⟩
  · rw [if_neg hin2] at HD
    have hb1 : ((i : Int) == (n : Int)) = false := beq_eq_false_iff_ne.2 (by omega)
    have hb2 : (i == n) = false := beq_eq_false_iff_ne.2 hin2
    have hbz : w.heap.size ≠ b := fun e => hbx (e ▸ r4)
    go_enter Try.func171, Try.ntmps171
    go_upto_region 10 with (go_at_call 183; refine (HWW.out).mono ?_; rintro e w' ⟨rfl, rfl⟩)
    have hm := HMID.out _ ((Grows.refl (w.setCell ⟨G, v, none⟩ (.int .i64 (-1)))).new (.cells #[.int .i64 ((gi2 s.L n).1 : Int), .int .u64 ((gi2 s.L n).2 : Int)] 227))
    have q5 : Arr (((w.setCell ⟨G, v, none⟩ (.int .i64 (-1))).alloc (.cells #[.int .i64 ((gi2 s.L n).1 : Int), .int .u64 ((gi2 s.L n).2 : Int)] 227)).setCell ⟨b, 0, none⟩ (.slice (some ⟨g, 0, none⟩) n c)) w.heap.size 227 [.int .i64 ((gi2 s.L n).1 : Int), .int .u64 ((gi2 s.L n).2 : Int)] :=
      Arr.other (by
        have h := Arr.make (w.setCell ⟨G, v, none⟩ (.int .i64 (-1))) [Value.int .i64 ((gi2 s.L n).1 : Int), .int .u64 ((gi2 s.L n).2 : Int)] 227
        rw [size_setCell] at h
        exact h) (Ne.symm hbz) _
    generalize ((w.setCell ⟨G, v, none⟩ (.int .i64 (-1))).alloc (.cells #[.int .i64 ((gi2 s.L n).1 : Int), .int .u64 ((gi2 s.L n).2 : Int)] 227)).setCell ⟨b, 0, none⟩ (.slice (some ⟨g, 0, none⟩) n c) = W3 at *
    obtain ⟨e1, e2, _⟩ := hm
    have hin3 : i < (⟨s.L.take n, s.T.set v (-1)⟩ : HS).L.length := by have := HN.out; simp; omega
    have hln : (⟨s.L.take n, s.T.set v (-1)⟩ : HS).L.length ≤ 90000 := by simp; omega
    generalize (⟨s.L.take n, s.T.set v (-1)⟩ : HS) = s1 at *
    have HT2 := hide e2
    have HS1 := hide (HS.sink_in HI2.out i (gi2 s.L n) hxN)
    have HSK := hide (fun (W : World) (hg : Grows W3 W) => hpSink b N s1 i (gi2 s.L n) S W (e1.grow hg) (fun k hk => Nat.lt_of_lt_of_le (HSS.out k hk) (Nat.le_trans HT2.out.size hg.size)) HI2.out hin3 hxN (by omega))
    generalize gi2 s.L n = x at *
    unfold itVal at HSK
    obtain ⟨x1, x2⟩ := x
    dsimp only at *
    clear e1 e2 m0 p1 p2 p3 r1 hin2 hb1 hb2
    have HL1 := hide hin3
    clear hin3
    go_wp2_with (go_at_call 184; refine (HSK.out _ (by repeat (first | exact Grows.refl _ | refine Grows.now ?_ _ | refine Grows.new ?_ _ | refine Grows.drewN ?_ _ | refine Grows.drew ?_ | assumption | (refine Grows.set ?_ (by first | omega | (simp; done) | (simp; omega)) _)))).mono ?_; rintro e w4 ⟨rfl, hp, ht⟩; have q6 := q5.touch ht hbx; have HP4 := hide hp; have HT4 := hide ht; clear hp ht)
    have hi2 := HS1.out
    generalize s1.sink i (x1, x2) = s2 at *
    obtain ⟨hi3, hi4⟩ := hi2
    obtain ⟨A', c', G', t1, t2, t3, t4, t5, t6⟩ := HP4.out
    have mm : Mine w4 ⟨G', x1, none⟩ (.int .i64 (gz s2.T x1)) := t3.int (by rw [hi3.1]; exact hxN)
    have HRI := hide (fun (W : World) (hg : Grows w4 W) => hpRise b N s2 i (x1, x2) S W (HP4.out.grow hg) (fun k hk => Nat.lt_of_lt_of_le (HSS.out k hk) (Nat.le_trans HT2.out.size (Nat.le_trans HT4.out.size hg.size))) hi3 (by rw [hi4]; exact HL1.out) hxN (by omega))
    unfold itVal at HRI
    dsimp only at HRI
    have hx1 : x1 < s2.T.length := by rw [hi3.1]; exact hxN
    clear hi3 hi4 t2 t3 t6
    generalize gz s2.T x1 = z at *
    by_cases hzi : z = (i : Int)
    · subst hzi
      rw [if_pos rfl] at HD
      ((first | refine wp_region_gen2 (by kernel_rfl) (by kernel_rfl) ?_ | refine wp_region_gen (by kernel_rfl) (by kernel_rfl) ?_); (repeat' (first | (refine gLex_val0 rfl (by kernel_rfl) (fun K hK => ?_); (go_simp; (try (simp only [↓IntWalk.iteOmega]; try go_simp)); (try simp (disch := omega) only [IntWalk.i64_in]); (try simp (disch := omega) only [IntWalk.u64_in]); first | (refine hK _ ?_; clear hK K) | (apply Exists.intro; refine ⟨fun x => ?_, hK _ ?_⟩; (first | fail); clear hK K))) | (refine gLex_undef rfl rfl rfl (by kernel_rfl) (fun K hK => ?_); go_simp; refine hK _ ?_; clear hK K) | (refine gLex_ask rfl rfl rfl ?_; first | (apply gAsk_yes; kernel_rfl; intro K hK; (go_simp; (try (simp only [↓IntWalk.iteOmega]; try go_simp)); (try simp (disch := omega) only [IntWalk.i64_in]); (try simp (disch := omega) only [IntWalk.u64_in]); first | (refine hK _ ?_; clear hK K) | (apply Exists.intro; refine ⟨fun x => ?_, hK _ ?_⟩; (first | fail); clear hK K))) | ((first | apply gAsk_no1 | apply gAsk_no2); kernel_rfl; intro K hK; simp [go_sem]; refine hK _ ?_; clear hK K) | (apply gAsk_part; kernel_rfl; all_goals (intro h K hK; (try simp only [Bool.not_true] at h); (try simp only [Bool.not_false] at h); (try simp only [decide_eq_true_eq] at h); (try simp only [decide_eq_false_iff_not] at h); first | (exfalso; first | contradiction | omega) | (go_simp; (try (simp only [↓IntWalk.iteOmega]; try go_simp)); (try simp (disch := omega) only [IntWalk.i64_in]); (try simp (disch := omega) only [IntWalk.u64_in]); first | (refine hK _ ?_; clear hK K) | (apply Exists.intro; refine ⟨fun x => ?_, hK _ ?_⟩; (first | fail); clear hK K))))))); all_goals ((apply gLex_end); intro y))
      go_wp2_with (go_at_call 169; refine (HRI.out _ (by repeat (first | exact Grows.refl _ | refine Grows.now ?_ _ | refine Grows.new ?_ _ | refine Grows.drewN ?_ _ | refine Grows.drew ?_ | assumption | (refine Grows.set ?_ (by first | omega | (simp; done) | (simp; omega)) _)))).mono ?_; rintro e w' ⟨rfl, hp, ht⟩; have HP5 := hide hp; have HT5 := hide ht; clear hp ht)
      have hgy : Grows w4 y.now := (by repeat (first | exact Grows.refl _ | refine Grows.now ?_ _ | refine Grows.new ?_ _ | refine Grows.drewN ?_ _ | refine Grows.drew ?_ | assumption | (refine Grows.set ?_ (by first | omega | (simp; done) | (simp; omega)) _)))
      go_ret
      exact ⟨rfl, HD.out ▸ HP5.out, (HT2.out.trans ((HT4.out.grows hgy).trans HT5.out))⟩
    · rw [if_neg hzi] at HD
      have hb : (z == (i : Int)) = false := beq_eq_false_iff_ne.2 hzi
      clear hzi
      ((first | refine wp_region_gen2 (by kernel_rfl) (by kernel_rfl) ?_ | refine wp_region_gen (by kernel_rfl) (by kernel_rfl) ?_); (repeat' (first | (refine gLex_val0 rfl (by kernel_rfl) (fun K hK => ?_); (go_simp; (try (simp only [↓IntWalk.iteOmega]; try go_simp)); (try simp (disch := omega) only [IntWalk.i64_in]); (try simp (disch := omega) only [IntWalk.u64_in]); first | (refine hK _ ?_; clear hK K) | (apply Exists.intro; refine ⟨fun x => ?_, hK _ ?_⟩; (first | fail); clear hK K))) | (refine gLex_undef rfl rfl rfl (by kernel_rfl) (fun K hK => ?_); go_simp; refine hK _ ?_; clear hK K) | (refine gLex_ask rfl rfl rfl ?_; first | (apply gAsk_yes; kernel_rfl; intro K hK; (go_simp; (try (simp only [↓IntWalk.iteOmega]; try go_simp)); (try simp (disch := omega) only [IntWalk.i64_in]); (try simp (disch := omega) only [IntWalk.u64_in]); first | (refine hK _ ?_; clear hK K) | (apply Exists.intro; refine ⟨fun x => ?_, hK _ ?_⟩; (first | fail); clear hK K))) | ((first | apply gAsk_no1 | apply gAsk_no2); kernel_rfl; intro K hK; simp [go_sem]; refine hK _ ?_; clear hK K) | (apply gAsk_part; kernel_rfl; all_goals (intro h K hK; (try simp only [Bool.not_true] at h); (try simp only [Bool.not_false] at h); (try simp only [decide_eq_true_eq] at h); (try simp only [decide_eq_false_iff_not] at h); first | (exfalso; first | contradiction | omega) | (go_simp; (try (simp only [↓IntWalk.iteOmega]; try go_simp)); (try simp (disch := omega) only [IntWalk.i64_in]); (try simp (disch := omega) only [IntWalk.u64_in]); first | (refine hK _ ?_; clear hK K) | (apply Exists.intro; refine ⟨fun x => ?_, hK _ ?_⟩; (first | fail); clear hK K))))))); all_goals ((apply gLex_end); intro y))
      go_wp2_with fail
      have hgy : Grows w4 y.now := (by repeat (first | exact Grows.refl _ | refine Grows.now ?_ _ | refine Grows.new ?_ _ | refine Grows.drewN ?_ _ | refine Grows.drew ?_ | assumption | (refine Grows.set ?_ (by first | omega | (simp; done) | (simp; omega)) _)))
      go_ret
      exact ⟨rfl, HD.out ▸ HP4.out.grow hgy, (HT2.out.trans (HT4.out.grows hgy))⟩
/-- What the top is, and what is left behind it. -/
def GivePop (w : World) (S : Nat → Prop) (b : Nat) (s : HS) (e : Ending) (w' : World) : Prop :=
  e = .returned (.tuple #[.int .i64 ((gi2 s.L 0).1 : Int), .int .u64 ((gi2 s.L 0).2 : Int), .bool true]) ∧ HpAt w' S b (s.drop (gi2 s.L 0).1) ∧ Touch S w w'
set_option maxHeartbeats 2000000 in
theorem hpTopNo (b : Nat) (s : HS) (S : Nat → Prop) (w : World) (h : HpAt w S b s) (h0 : s.L.length = 0) :
    Calls Try.prog 170 #[.pointer (some ⟨b, 0, none⟩)] w fun e w' => e = .returned (.tuple #[.int .i64 0, .int .u64 0, .bool false]) ∧ Grows w w' := by
  obtain ⟨A, c, G, r1, r2, r3, r4, r5, r6⟩ := h
  rw [h0] at r1
  have C := hide (hpLen b A 0 c _ w r1)
  clear r2 r3 r6
  go_enter Try.func170, Try.ntmps170
  go_wp2_with (go_at_call 182; refine (C.out).mono ?_; rintro e w' ⟨rfl, rfl⟩)
  refine bodyPost_ret (v := .tuple #[.int .i64 0, .int .u64 0, .bool false]) (by simp [results, Try.results170, go_sem]) rfl ⟨rfl, (by repeat (first | exact Grows.refl _ | refine Grows.now ?_ _ | refine Grows.new ?_ _ | refine Grows.drewN ?_ _ | refine Grows.drew ?_ | assumption | (refine Grows.set ?_ (by first | omega | (simp; done) | (simp; omega)) _)))⟩
set_option maxHeartbeats 2000000 in
theorem hpTop (b : Nat) (s : HS) (S : Nat → Prop) (w : World) (h : HpAt w S b s) (h0 : 0 < s.L.length) :
    Calls Try.prog 170 #[.pointer (some ⟨b, 0, none⟩)] w fun e w' => e = .returned (.tuple #[.int .i64 ((gi2 s.L 0).1 : Int), .int .u64 ((gi2 s.L 0).2 : Int), .bool true]) ∧ Grows w w' := by
  obtain ⟨A, c, G, r1, r2, r3, r4, r5, r6⟩ := h
  obtain ⟨g, rfl, m1, m2⟩ := r2.item h0
  rw [Nat.zero_mul] at m1 m2
  have C := hide (hpLen b (some ⟨g, 0, none⟩) s.L.length c _ w r1)
  have hb : ((s.L.length : Int) == 0) = false := beq_eq_false_iff_ne.2 (by omega)
  clear r2 r3 r6
  generalize gi2 s.L 0 = q at *
  obtain ⟨q1, q2⟩ := q
  dsimp only at *
  go_enter Try.func170, Try.ntmps170
  go_wp2_with (go_at_call 182; refine (C.out).mono ?_; rintro e w' ⟨rfl, rfl⟩)
  ((first | refine wp_region_gen2 (by kernel_rfl) (by kernel_rfl) ?_ | refine wp_region_gen (by kernel_rfl) (by kernel_rfl) ?_); (repeat' (first | (refine gLex_val0 rfl (by kernel_rfl) (fun K hK => ?_); (go_simp; (try (simp only [↓IntWalk.iteOmega]; try go_simp)); (try simp (disch := omega) only [IntWalk.i64_in]); (try simp (disch := omega) only [IntWalk.u64_in]); first | (refine hK _ ?_; clear hK K) | (apply Exists.intro; refine ⟨fun x => ?_, hK _ ?_⟩; (first | fail); clear hK K))) | (refine gLex_undef rfl rfl rfl (by kernel_rfl) (fun K hK => ?_); go_simp; refine hK _ ?_; clear hK K) | (refine gLex_ask rfl rfl rfl ?_; first | (apply gAsk_yes; kernel_rfl; intro K hK; (go_simp; (try (simp only [↓IntWalk.iteOmega]; try go_simp)); (try simp (disch := omega) only [IntWalk.i64_in]); (try simp (disch := omega) only [IntWalk.u64_in]); first | (refine hK _ ?_; clear hK K) | (apply Exists.intro; refine ⟨fun x => ?_, hK _ ?_⟩; (first | fail); clear hK K))) | ((first | apply gAsk_no1 | apply gAsk_no2); kernel_rfl; intro K hK; simp [go_sem]; refine hK _ ?_; clear hK K) | (apply gAsk_part; kernel_rfl; all_goals (intro h K hK; (try simp only [Bool.not_true] at h); (try simp only [Bool.not_false] at h); (try simp only [decide_eq_true_eq] at h); (try simp only [decide_eq_false_iff_not] at h); first | (exfalso; first | contradiction | omega) | (go_simp; (try (simp only [↓IntWalk.iteOmega]; try go_simp)); (try simp (disch := omega) only [IntWalk.i64_in]); (try simp (disch := omega) only [IntWalk.u64_in]); first | (refine hK _ ?_; clear hK K) | (apply Exists.intro; refine ⟨fun x => ?_, hK _ ?_⟩; (first | fail); clear hK K))))))); all_goals ((apply gLex_end); intro y))
  go_wp2_with fail
  refine bodyPost_ret (v := .tuple #[.int .i64 (q1 : Int), .int .u64 (q2 : Int), .bool true]) (by simp [results, Try.results170, go_sem]) rfl ⟨rfl, (by repeat (first | exact Grows.refl _ | refine Grows.now ?_ _ | refine Grows.new ?_ _ | refine Grows.drewN ?_ _ | refine Grows.drew ?_ | assumption | (refine Grows.set ?_ (by first | omega | (simp; done) | (simp; omega)) _)))⟩
set_option maxHeartbeats 2000000 in
theorem hpPopNo (b : Nat) (s : HS) (S : Nat → Prop) (w : World) (h : HpAt w S b s) (h0 : s.L.length = 0) :
    Calls Try.prog 151 #[.pointer (some ⟨b, 0, none⟩)] w fun e w' => e = .returned (.tuple #[.int .i64 0, .int .u64 0, .bool false]) ∧ Grows w w' := by
  have C := hide (hpTopNo b s S w h h0)
  clear h
  go_enter Try.func151, Try.ntmps151
  go_wp2_with (go_at_call 170; refine (C.out).mono ?_; rintro e w' ⟨rfl, hg⟩; obtain ⟨y, rfl⟩ := hg.later; clear hg)
  refine bodyPost_ret (v := .tuple #[.int .i64 0, .int .u64 0, .bool false]) (by simp [results, Try.results151, go_sem]) rfl ⟨rfl, (by repeat (first | exact Grows.refl _ | refine Grows.now ?_ _ | refine Grows.new ?_ _ | refine Grows.drewN ?_ _ | refine Grows.drew ?_ | assumption | (refine Grows.set ?_ (by first | omega | (simp; done) | (simp; omega)) _)))⟩
set_option maxHeartbeats 2000000 in
theorem hpPop (b N : Nat) (s : HS) (S : Nat → Prop) (i : Nat) (w : World) (h : HpAt w S b s) (hs : ∀ k, S k → k < w.heap.size) (hin : s.In N) (h0 : 0 < s.L.length) (hz : gz s.T (gi2 s.L 0).1 = (i : Int)) (hi : i < s.L.length) (hl : s.L.length ≤ 90000) :
    Calls Try.prog 151 #[.pointer (some ⟨b, 0, none⟩)] w (GivePop w S b s) := by
  unfold GivePop
  have C := hide (hpTop b s S w h h0)
  have D := hide (fun (W : World) (hg : Grows w W) => hpDrop b N s (gi2 s.L 0).1 i S W (h.grow hg) (fun k hk => Nat.lt_of_lt_of_le (hs k hk) hg.size) hin (hin.2 0 h0) hz hi hl)
  clear h hs hin hz
  generalize gi2 s.L 0 = q at *
  obtain ⟨q1, q2⟩ := q
  dsimp only at *
  go_enter Try.func151, Try.ntmps151
  go_wp2_with (first
    | (go_at_call 170; refine (C.out).mono ?_; rintro e w' ⟨rfl, hg⟩; obtain ⟨y, rfl⟩ := hg.later; clear hg)
    | (go_at_call 171; refine (D.out _ (by repeat (first | exact Grows.refl _ | refine Grows.now ?_ _ | refine Grows.new ?_ _ | refine Grows.drewN ?_ _ | refine Grows.drew ?_ | assumption | (refine Grows.set ?_ (by first | omega | (simp; done) | (simp; omega)) _)))).mono ?_; rintro e w' ⟨rfl, hp, ht⟩; have HP := hide hp; have HT := hide ht; clear hp ht))
  have hgy : Grows w y.now := y.grows
  exact bodyPost_ret (v := .tuple #[.int .i64 (q1 : Int), .int .u64 (q2 : Int), .bool true]) (by simp [results, Try.results151, go_sem]) rfl ⟨rfl, HP.out, (hgy.touch S).trans HT.out⟩
end Go.Proofs.Ytpnncadglhlclaa
