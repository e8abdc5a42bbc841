/- Contracts: sets of numbers. -/
import Derived.Test.YtomednfddpggaaaGreatQDagLooks04
import Derived.WalkMore
/- Contracts: sets of numbers. -/
namespace Go.Proofs.YtomednfddpggaaaGreat
open Go Go.RowKit
def wv (W : List Nat) : List Value := W.map fun (x : Nat) => Value.int .u64 (x : Int)
theorem wv_len (W : List Nat) : (wv W).length = W.length := by simp [wv]
theorem wv_at {W : List Nat} {j : Nat} (h : j < W.length) : (wv W)[j]? = some (.int .u64 (gn W j : Int)) := by simp [wv, gn, h]
theorem wv_set (W : List Nat) (j x : Nat) : (wv W).set j (.int .u64 (x : Int)) = wv (W.set j x) := by simp [wv, List.map_set]
structure BtAt (w : World) (b g n : Nat) (W : List Nat) : Prop where
  row : Arr w b 203 [.int .i64 (n : Int), .slice (some ⟨g, 0, none⟩) W.length W.length]
  words : Row1 w g 38 1 W.length W.length (wv W)
  room : n ≤ W.length * 64
  small : ∀ j, j < W.length → gn W j < 18446744073709551616
def hasW (W : List Nat) (i : Nat) : Bool := (gn W (i / 64)).testBit (i % 64)
theorem bitsSize (b n : Nat) (u : Value) (w : World) (h : Arr w b 203 [.int .i64 (n : Int), u]) : Calls Tryz.prog 138 #[.pointer (some ⟨b, 0, none⟩)] w fun e w' => e = .returned (.int .i64 (n : Int)) ∧ w = w' := by
  go_enter Tryz.func138, Tryz.ntmps138
  go_wp2
  go_ret
  exact ⟨rfl, rfl⟩
set_option maxHeartbeats 1000000 in
theorem bitsHasIn (b g n : Nat) (W : List Nat) (i : Nat) (w : World) (h : BtAt w b g n W) (hi : i < n) (hn : n ≤ 65536) : Calls Tryz.prog 106 #[.pointer (some ⟨b, 0, none⟩), .int .i64 (i : Int)] w fun e w' => e = .returned (.bool (hasW W i)) ∧ w = w' := by
  obtain ⟨q, hq⟩ : ∃ q, i / 64 = q := ⟨_, rfl⟩
  obtain ⟨r, hr⟩ : ∃ r, i % 64 = r := ⟨_, rfl⟩
  have hqi : (i : Int) / 64 = (q : Int) := by omega
  have hri : (i : Int) % 64 = (r : Int) := by omega
  have hrb : r < 64 := by omega
  have hql : q < W.length := by have := h.room; omega
  have m0 : Mine w ⟨g, q, none⟩ (.int .u64 (gn W q : Int)) := h.words.mine (wv_at hql)
  have hx := h.small q hql
  have h1 := h.row
  have C := hide (bitsSize b n _ w h1)
  have HH : Hid (hasW W i = (gn W q).testBit r) := by unfold hasW; rw [hq, hr]; exact rfl
  clear h hq hr
  generalize gn W q = x at *
  go_enter Tryz.func106, Tryz.ntmps106
  go_wp2_with (go_at_call 138; refine (C.out).mono ?_; rintro e w' ⟨rfl, rfl⟩)
  go_ret
  refine ⟨ret_bool ?_, rfl⟩
  rw [HH.out, Nat.testBit_eq_decide_div_mod_eq]
  have e : (x : Int) / 2 ^ r = ((x / 2 ^ r : Nat) : Int) := by simp
  have hlt : x / 2 ^ r ≤ x := Nat.div_le_self _ _
  show (bits BinOp.and IntKind.u64 ((x : Int) / 2 ^ r) 1 == 1) = _
  rw [e]
  generalize x / 2 ^ r = y at *
  rw [and_one_u64 _ (by omega) (by omega)]
  apply bool_ext
  simp
  omega
theorem hasW_set (W : List Nat) (i j : Nat) (hi : i / 64 < W.length) : hasW (W.set (i / 64) (gn W (i / 64) ||| 2 ^ (i % 64))) j = (hasW W j || decide (j = i)) := by
  unfold hasW
  rw [gn_set _ _ _ _ hi]
  by_cases h : j / 64 = i / 64
  · rw [if_pos h, Nat.testBit_or, Nat.testBit_two_pow, h]
    congr 1
    apply bool_ext
    simp
    omega
  · rw [if_neg h]
    have : ¬ j = i := fun e => h (by rw [e])
    simp [this]
theorem or_small {x r : Nat} (hx : x < 18446744073709551616) (hr : r < 64) : x ||| 2 ^ r < 18446744073709551616 := by
  have h1 : (2 : Nat) ^ r < 2 ^ 64 := Nat.pow_lt_pow_right (by omega) hr
  have := Nat.or_lt_two_pow (x := x) (y := 2 ^ r) (n := 64) hx h1
  exact this
def GiveAdd (w : World) (b g n : Nat) (W : List Nat) (i : Int) (e : Ending) (w' : World) : Prop :=
  ∃ r W', e = .returned (.bool r) ∧ BtAt w' b g n W' ∧ (∀ j, j < n → hasW W' j = (hasW W j || decide ((j : Int) = i))) ∧ Touch (fun k => k = g) w w'
theorem BtAt.grow {w w' : World} {b g n : Nat} {W : List Nat} (h : BtAt w b g n W) (hg : Grows w w') : BtAt w' b g n W := ⟨h.row.grow hg, h.words.grow hg, h.room, h.small⟩
theorem GiveAdd.same {w w' : World} {b g n : Nat} {W : List Nat} {i : Int} {r : Bool} (h : BtAt w b g n W) (hg : Grows w w') (hn : ∀ j, j < n → (j : Int) = i → hasW W j = true) : GiveAdd w b g n W i (.returned (.bool r)) w' :=
  ⟨r, W, rfl, h.grow hg, fun j hj => by
    by_cases e : (j : Int) = i
    · rw [hn j hj e]; rfl
    · simp [e], hg.touch _⟩
theorem BtAt.put {w W' : World} {b g n : Nat} {W : List Nat} {i : Nat} (h : BtAt w b g n W) (hg : Grows w W') (hi : i < n) : GiveAdd w b g n W i (.returned (.bool true)) (W'.setCell ⟨g, i / 64, none⟩ (.int .u64 ((gn W (i / 64) ||| 2 ^ (i % 64) : Nat) : Int))) := by
  have hl : i / 64 < W.length := by have := h.room; omega
  refine ⟨true, W.set (i / 64) (gn W (i / 64) ||| 2 ^ (i % 64)), rfl, ⟨?_, ?_, by simpa using h.room, fun j hj => ?_⟩, fun j _ => ?_, (hg.touch (fun k => k = g)).set (p := ⟨g, i / 64, none⟩) (.inl rfl) _⟩
  · rw [List.length_set]; exact (h.row.grow hg).other (h.words.ne h.row (by decide)) _
  · rw [List.length_set, ← wv_set]; exact (h.words.grow hg).set _ _
  · rw [gn_set _ _ _ _ hl]
    split
    · exact or_small (h.small _ hl) (by omega)
    · exact h.small j (by simpa using hj)
  · rw [hasW_set _ _ _ hl]
    congr 1
    apply bool_ext
    simp
    omega
set_option maxHeartbeats 2000000 in
theorem bitsAdd (b g n : Nat) (W : List Nat) (i : Int) (w : World) (h : BtAt w b g n W) (hn : n ≤ 65536) : Calls Tryz.prog 137 #[.pointer (some ⟨b, 0, none⟩), .int .i64 i] w (GiveAdd w b g n W i) := by
  have h1 := h.row
  have C := hide (bitsSize b n _ w h1)
  have HB := hide h
  rcases Int.lt_or_le i 0 with h0 | h0
  · have hd : decide (i < 0) = true := decide_eq_true h0
    clear h
    go_enter Tryz.func137, Tryz.ntmps137
    go_wp2_with fail
    go_ret
    exact GiveAdd.same HB.out GG (fun j _ e => by omega)
  · obtain ⟨k, rfl⟩ : ∃ k : Nat, i = (k : Int) := ⟨i.toNat, by omega⟩
    rcases Nat.lt_or_ge k n with hk | hk
    · have hd : decide ((n : Int) ≤ (k : Int)) = false := decide_eq_false (by omega)
      have hd2 : decide (n ≤ k) = false := decide_eq_false (by omega)
      have CH := hide (bitsHasIn b g n W k w h hk hn)
      obtain ⟨q, hq⟩ : ∃ q, k / 64 = q := ⟨_, rfl⟩
      obtain ⟨r, hr⟩ : ∃ r, k % 64 = r := ⟨_, rfl⟩
      have hqi : (k : Int) / 64 = (q : Int) := by omega
      have hri : (k : Int) % 64 = (r : Int) := by omega
      have hrb : r < 64 := by omega
      have hql : q < W.length := by have := h.room; omega
      have m0 : Mine w ⟨g, q, none⟩ (.int .u64 (gn W q : Int)) := h.words.mine (wv_at hql)
      have hx := h.small q hql
      have HP := hide (fun (W' : World) (hg : Grows w W') => h.put hg hk)
      rw [hq, hr] at HP
      have HHH := hide (rfl : hasW W k = hasW W k)
      clear h hq hr
      cases hh : hasW W k with
      | true =>
        rw [hh] at CH
        have HH := hide hh
        clear hh HHH
        go_enter Tryz.func137, Tryz.ntmps137
        go_wp2_with (first
          | (go_at_call 138; refine (C.out).mono ?_; rintro e w' ⟨rfl, rfl⟩)
          | (go_at_call 106; refine (CH.out).mono ?_; rintro e w' ⟨rfl, rfl⟩))
        go_ret
        exact GiveAdd.same HB.out GG (fun j _ e => by
          have e2 : j = k := by omega
          rw [e2]; exact HH.out)
      | false =>
        rw [hh] at CH
        clear hh HHH
        generalize gn W q = u at *
        have htm : (k : Int).tmod 64 = (r : Int) := by rw [Int.tmod_eq_emod_of_nonneg (by omega)]; exact hri
        have HO : Hid (bits BinOp.or IntKind.u64 (u : Int) (IntKind.u64.wrap (2 ^ r)) = ((u ||| 2 ^ r : Nat) : Int)) := by
          have hpb : 2 ^ r < 2 ^ 64 := Nat.pow_lt_pow_right (by omega) hrb
          have hp : (2 : Int) ^ r = ((2 ^ r : Nat) : Int) := by simp
          show _ = _
          rw [hp]
          generalize 2 ^ r = p at *
          rw [show IntKind.u64.wrap (p : Int) = (p : Int) from IntWalk.u64_in _ (by omega)]
          exact u64_or_nat u p hx hpb
        go_enter Tryz.func137, Tryz.ntmps137
        go_wp2_with (first
          | (go_at_call 138; refine (C.out).mono ?_; rintro e w' ⟨rfl, rfl⟩)
          | (go_at_call 106; refine (CH.out).mono ?_; rintro e w' ⟨rfl, rfl⟩))
        (refine wp_region_tail1 13 (by kernel_rfl) (by kernel_rfl) ?_; simp only [List.take_succ_cons, List.take_zero, List.drop_succ_cons, List.drop_zero]; (repeat' (first | (refine gLex_val0 rfl (by kernel_rfl) (fun K hK => ?_); (go_simp; (try (simp only [↓IntWalk.iteOmega]; try go_simp)); (try simp (disch := omega) only [IntWalk.i64_in]); (try simp (disch := omega) only [IntWalk.u64_in]); first | (refine hK _ ?_; clear hK K) | (apply Exists.intro; refine ⟨fun x => ?_, hK _ ?_⟩; (first | fail); clear hK K))) | (refine gLex_undef rfl rfl rfl (by kernel_rfl) (fun K hK => ?_); go_simp; refine hK _ ?_; clear hK K) | (refine gLex_ask rfl rfl rfl ?_; first | (apply gAsk_yes; kernel_rfl; intro K hK; (go_simp; (try (simp only [↓IntWalk.iteOmega]; try go_simp)); (try simp (disch := omega) only [IntWalk.i64_in]); (try simp (disch := omega) only [IntWalk.u64_in]); first | (refine hK _ ?_; clear hK K) | (apply Exists.intro; refine ⟨fun x => ?_, hK _ ?_⟩; (first | fail); clear hK K))) | ((first | apply gAsk_no1 | apply gAsk_no2); kernel_rfl; intro K hK; simp [go_sem]; refine hK _ ?_; clear hK K)))); refine gLex_endT (fun x => ?_))
        go_wp2_with fail
        rw [HO.out]
        go_ret
        exact HP.out _ GG
    · have hd : decide ((n : Int) ≤ (k : Int)) = true := decide_eq_true (by omega)
      have hd2 : decide (n ≤ k) = true := decide_eq_true hk
      clear h
      go_enter Tryz.func137, Tryz.ntmps137
      go_wp2_with (go_at_call 138; refine (C.out).mono ?_; rintro e w' ⟨rfl, rfl⟩)
      go_ret
      exact GiveAdd.same HB.out GG (fun j _ e => by omega)
end Go.Proofs.YtomednfddpggaaaGreat

/- Contract: from a place up. -/
namespace Go.Proofs.YtomednfddpggaaaGreat
open Go Go.RowKit
def RiseAt (w : World) (S : Nat → Prop) (b N bx : Nat) (s : HS) (i : Nat) (x : Itm) (k : Nat) (wr : World) : Prop :=
  ∃ s' : HS, HpAt wr S b s' ∧ s'.In N ∧ s'.L.length = s.L.length ∧ k < s.L.length ∧ s'.rise k x = s.rise i x ∧ Touch S w wr ∧ Arr wr bx 216 [.int .i64 (x.1 : Int), .int .u64 (x.2 : Int)]
set_option maxRecDepth 20000 in
set_option maxHeartbeats 4000000 in
theorem hpRise (b N : Nat) (s : HS) (i : Nat) (x : Itm) (S : Nat → Prop) (w : World) (h : HpAt w S b s) (hs : ∀ k, S k → k < w.heap.size) (hin : s.In N) (hi : i < s.L.length) (hx : x.1 < N) (hl : s.L.length ≤ 100000) :
    Calls Tryz.prog 156 #[.pointer (some ⟨b, 0, none⟩), .int .i64 (i : Int), itVal x] w fun e w' => e = .returned (.tuple #[]) ∧ HpAt w' S b (s.rise i x) ∧ Touch S w w' := by
  have hbx : ¬ S w.heap.size := fun e => by have := hs _ e; omega
  have H0 : Hid (RiseAt w S b N w.heap.size s i x i (w.alloc (.cells #[.int .i64 (x.1 : Int), .int .u64 (x.2 : Int)] 216))) :=
    ⟨s, h.grow ((Grows.refl w).new _), hin, rfl, hi, rfl, ((Grows.refl w).new _).touch S, Arr.make _ _ _⟩
  clear h hs hin
  unfold itVal
  go_enter Tryz.func156, Tryz.ntmps156
  go_wp2_with fail
  go_step3
  go_wp2_with fail
  go_step3
  go_wp2_with fail
  go_loopw [1] (fun v wr => ∃ k : Nat, v = .int .i64 (k : Int) ∧ RiseAt w S b N w.heap.size s i x k wr) (fun v _ => (Go.RowKit.intOf v).toNat)
  case atStart => exact ⟨i, rfl, H0.out⟩
  case round =>
    obtain ⟨k, rfl, s', h1, h2, h3, h4, h5, h6, h7⟩ := hrel
    clear H0
    have hk' : k < s'.L.length := by omega
    have HLX := hide (fun (W : World) (hg : Grows wr W) => hpLay b s' k x S W (h1.grow hg) hk' (by rw [h2.1]; exact hx))
    by_cases hk0 : k = 0
    · subst hk0
      have HE : Hid (s'.lay 0 x = s.rise i x) := by rw [← h5, HS.rise, dif_neg (fun e => absurd e.1 (by omega))]; rfl
      have H6 := hide h6
      clear h1 h2 h3 h5 h6
      go_wp2_with (go_at_call 163; refine (HLX.out _ GG).mono ?_; rintro e w' ⟨rfl, hp, ht⟩; have HP := hide hp; have HT := hide ht; clear hp ht)
      rw [Exit.noGoto_normal]
      go_end0
      exact ⟨rfl, HE.out ▸ HP.out, H6.out.trans HT.out⟩
    · obtain ⟨u, rfl⟩ : ∃ u, k = u + 1 := ⟨k - 1, by omega⟩
      obtain ⟨p, hp⟩ : ∃ p, u / 2 = p := ⟨_, rfl⟩
      have hq : (u : Int) / 2 = (p : Int) := by omega
      have hpl : p < s'.L.length := by omega
      have hpu : p ≤ u := by omega
      obtain ⟨A, c, G, r1, r2, r3, r4, r5, r6⟩ := h1
      obtain ⟨g, rfl, m1, m2⟩ := r2.item hpl
      have hT := h2.1
      have H2 := hide h2
      have H6 := hide h6
      have HLU := hide (fun (W : World) (hg : Grows wr W) => hpLay b s' (u + 1) (gi2 s'.L p) S W ((show HpAt wr S b s' from ⟨_, c, G, r1, r2, r3, r4, r5, r6⟩).grow hg) hk' (by rw [hT]; exact h2.2 p hpl))
      have HLE := hide (fun (W : World) => hpLess x (gi2 s'.L p) W)
      have HR : Hid (s'.rise (u + 1) x = if ahead x (gi2 s'.L p) = true then (s'.lay (u + 1) (gi2 s'.L p)).rise p x else s'.lay (u + 1) x) := by
        show _ = _
        rw [HS.rise, Nat.add_sub_cancel, hp]
        by_cases ha : ahead x (gi2 s'.L p) = true
        · rw [dif_pos ⟨by omega, ha⟩, if_pos ha]
        · rw [dif_neg (fun e => ha e.2), if_neg ha]
      have H5 := hide h5
      have HP0 := hide hp
      clear h2 h5 h6 r2 r3 r6 hT hp
      cases ha : ahead x (gi2 s'.L p) with
      | true =>
        rw [ha] at HLE HR
        generalize hgi : gi2 s'.L p = y at *
        have HGI := hide hgi
        clear ha hgi
        unfold itVal at HLU
        obtain ⟨y1, y2⟩ := y
        dsimp only at *
        rw [Int.natCast_add, Int.natCast_one] at HLU
        go_wp2_with fail
        ((first | refine wp_region_gen2 (by kernel_rfl) (by kernel_rfl) ?_ | refine wp_region_gen (by kernel_rfl) (by kernel_rfl) ?_); (repeat' (first | (refine gLex_val0 rfl (by kernel_rfl) (fun K hK => ?_); (go_simp; (try (simp only [↓IntWalk.iteOmega]; try go_simp)); (try simp (disch := omega) only [IntWalk.i64_in]); (try simp (disch := omega) only [IntWalk.u64_in]); first | (refine hK _ ?_; clear hK K) | (apply Exists.intro; refine ⟨fun x => ?_, hK _ ?_⟩; (first | (exact HLE.out _)); clear hK K))) | (refine gLex_undef rfl rfl rfl (by kernel_rfl) (fun K hK => ?_); go_simp; refine hK _ ?_; clear hK K) | (refine gLex_ask rfl rfl rfl ?_; first | (apply gAsk_yes; kernel_rfl; intro K hK; (go_simp; (try (simp only [↓IntWalk.iteOmega]; try go_simp)); (try simp (disch := omega) only [IntWalk.i64_in]); (try simp (disch := omega) only [IntWalk.u64_in]); first | (refine hK _ ?_; clear hK K) | (apply Exists.intro; refine ⟨fun x => ?_, hK _ ?_⟩; (first | (exact HLE.out _)); clear hK K))) | ((first | apply gAsk_no1 | apply gAsk_no2); kernel_rfl; intro K hK; simp [go_sem]; refine hK _ ?_; clear hK K) | (apply gAsk_part; kernel_rfl; all_goals (intro h K hK; (try simp only [Bool.not_true] at h); (try simp only [Bool.not_false] at h); (try simp only [decide_eq_true_eq] at h); (try simp only [decide_eq_false_iff_not] at h); first | (exfalso; first | contradiction | omega) | (go_simp; (try (simp only [↓IntWalk.iteOmega]; try go_simp)); (try simp (disch := omega) only [IntWalk.i64_in]); (try simp (disch := omega) only [IntWalk.u64_in]); first | (refine hK _ ?_; clear hK K) | (apply Exists.intro; refine ⟨fun x => ?_, hK _ ?_⟩; (first | (exact HLE.out _)); clear hK K))))))); all_goals ((apply gLex_end); intro z))
        go_wp2_with (go_at_call 163; refine (HLU.out _ GG).mono ?_; rintro e w' ⟨rfl, hp, ht⟩; have HPP := hide hp; have HTT := hide ht; clear hp ht)
        have hgz : Grows wr z.now := GG
        go_roundw
        case rel =>
          refine ⟨p, by go_num, s'.lay (u + 1) (y1, y2), HPP.out, H2.out.lay _ _ (by have := HGI.out; have h := H2.out.2 p hpl; rw [this] at h; exact h), by rw [(HS.lay_len _ _ _).1]; exact h3, by omega, ?_, (H6.out.grows hgz).trans HTT.out, ?_⟩
          · rw [← H5.out, HR.out]; rfl
          · exact (h7.grow hgz).touch HTT.out hbx
        case measure => simp [Go.RowKit.intOf]; omega
      | false =>
        rw [ha] at HLE HR
        clear ha HLU
        generalize gi2 s'.L p = y at *
        unfold itVal at HLE
        obtain ⟨y1, y2⟩ := y
        dsimp only at *
        rw [Int.natCast_add, Int.natCast_one] at HLX
        go_wp2_with fail
        ((first | refine wp_region_gen2 (by kernel_rfl) (by kernel_rfl) ?_ | refine wp_region_gen (by kernel_rfl) (by kernel_rfl) ?_); (repeat' (first | (refine gLex_val0 rfl (by kernel_rfl) (fun K hK => ?_); (go_simp; (try (simp only [↓IntWalk.iteOmega]; try go_simp)); (try simp (disch := omega) only [IntWalk.i64_in]); (try simp (disch := omega) only [IntWalk.u64_in]); first | (refine hK _ ?_; clear hK K) | (apply Exists.intro; refine ⟨fun x => ?_, hK _ ?_⟩; (first | (exact HLE.out _)); clear hK K))) | (refine gLex_undef rfl rfl rfl (by kernel_rfl) (fun K hK => ?_); go_simp; refine hK _ ?_; clear hK K) | (refine gLex_ask rfl rfl rfl ?_; first | (apply gAsk_yes; kernel_rfl; intro K hK; (go_simp; (try (simp only [↓IntWalk.iteOmega]; try go_simp)); (try simp (disch := omega) only [IntWalk.i64_in]); (try simp (disch := omega) only [IntWalk.u64_in]); first | (refine hK _ ?_; clear hK K) | (apply Exists.intro; refine ⟨fun x => ?_, hK _ ?_⟩; (first | (exact HLE.out _)); clear hK K))) | ((first | apply gAsk_no1 | apply gAsk_no2); kernel_rfl; intro K hK; simp [go_sem]; refine hK _ ?_; clear hK K) | (apply gAsk_part; kernel_rfl; all_goals (intro h K hK; (try simp only [Bool.not_true] at h); (try simp only [Bool.not_false] at h); (try simp only [decide_eq_true_eq] at h); (try simp only [decide_eq_false_iff_not] at h); first | (exfalso; first | contradiction | omega) | (go_simp; (try (simp only [↓IntWalk.iteOmega]; try go_simp)); (try simp (disch := omega) only [IntWalk.i64_in]); (try simp (disch := omega) only [IntWalk.u64_in]); first | (refine hK _ ?_; clear hK K) | (apply Exists.intro; refine ⟨fun x => ?_, hK _ ?_⟩; (first | (exact HLE.out _)); clear hK K))))))); all_goals ((apply gLex_end); intro z))
        go_wp2_with (go_at_call 163; refine (HLX.out _ GG).mono ?_; rintro e w' ⟨rfl, hp, ht⟩; have HPP := hide hp; have HTT := hide ht; clear hp ht)
        have hgz : Grows wr z.now := GG
        have HE : Hid (s'.lay (u + 1) x = s.rise i x) := by rw [← H5.out, HR.out]; rfl
        rw [Exit.noGoto_normal]
        go_end0
        exact ⟨rfl, HE.out ▸ HPP.out, (H6.out.grows hgz).trans HTT.out⟩
end Go.Proofs.YtomednfddpggaaaGreat
