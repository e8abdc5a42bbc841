/- Contract: are two rows of numbers the same? -/
import Derived.Test.YtiljgkaffgclgaaQPartsReach01
import Derived.Test.YtiljgkaffgclgaaQPartsReach03
import Derived.Test.YtiljgkaffgclgaaQPartsReach13
import Derived.Test.YtiljgkaffgclgaaQPartsReach02
import Derived.ArgAppend
import Derived.OwnWalkIn
import Derived.TacticsInMore
import Derived.Test.YtiljgkaffgclgaaQPartsReach05
/- Contract: are two rows of numbers the same? -/
namespace Go.Proofs.Ytiljgkaffgclgaa
open Go Go.RowKit
set_option maxHeartbeats 1000000 in
theorem r1Same (A : Option Addr) (n c : Nat) (l : List Int) (B : Option Addr) (m d : Nat) (l' : List Int) (w : World) (h : Rd w A 1 n (l.map (.int .i64))) (hn : n ≤ 1000000) (h' : Rd w B 1 m (l'.map (.int .i64))) (hm : m ≤ 1000000) :
    Calls Try.prog 23 #[.slice A n c, .slice B m d] w fun e w' => e = .returned (.bool (decide (l = l'))) ∧ Grows w w' := by
  have HL := hide (show l.length = n by simpa using h.len)
  have HM := hide (show l'.length = m by simpa using h'.len)
  have HR := hide h
  have HS := hide h'
  clear h h'
  by_cases hnm : n = m
  · subst hnm
    go_enter Try.func23, Try.ntmps23
    go_wp2
    go_loopw [5] (fun i wr => ∃ k : Nat, k ≤ n ∧ i = .int .i64 (k : Int) ∧ (∃ y : Later w, wr = y.now) ∧ ∀ j, j < k → gi l j = gi l' j) (fun i _ => n - (intOf i).toNat)
    case atStart => exact ⟨0, by omega, by go_num, ⟨⟨w, Grows.refl w⟩, rfl⟩, fun j h => by omega⟩
    case round =>
      obtain ⟨k, hk, rfl, ⟨y, rfl⟩, hall⟩ := hrel
      have HA := hide hall
      clear hall
      by_cases hend : n ≤ k
      · have HV : Hid (l = l') := by
          apply List.ext_getElem (by rw [HL.out, HM.out])
          intro j h1 h2
          have := HA.out j (by have := HL.out; omega)
          simpa [gi, h1, h2] using this
        go_wp2
        go_ret
        exact ⟨ret_bool (decide_eq_true HV.out).symm, (by repeat (first | exact Grows.refl _ | refine Grows.now ?_ _ | refine Grows.new ?_ _ | refine Grows.drewN ?_ _ | refine Grows.drew ?_ | assumption | (refine Grows.set ?_ (by first | omega | (simp; done) | (simp; omega)) _)))⟩
      · obtain ⟨b, off, rfl, hc⟩ := HR.out.intsH (by omega)
        obtain ⟨b2, off2, rfl, hc2⟩ := HS.out.intsH (by omega)
        have c1 := hc k (by omega)
        have c2 := hc2 k (by omega)
        clear hc hc2
        by_cases he : gi l k = gi l' k
        · have HE : Hid (∀ j, j < k + 1 → gi l j = gi l' j) := fun j hj => by
            by_cases e : j = k
            · rw [e]; exact he
            · exact HA.out j (by omega)
          have hd : (gi l k == gi l' k) = true := by simpa using he
          clear he
          generalize gi l k = u at *
          generalize gi l' k = v at *
          go_wp2_with fail
          ((first | refine wp_region_gen (by kernel_rfl) (by kernel_rfl) ?_); (repeat' (first | (refine gLex_val0 rfl (by kernel_rfl) (fun K hK => ?_); (go_simp; (try (simp only [↓IntWalk.iteOmega]; try go_simp)); (try simp (disch := omega) only [IntWalk.i64_in]); (try simp (disch := omega) only [IntWalk.u64_in]); first | (refine hK _ ?_; clear hK K) | (apply Exists.intro; refine ⟨fun x => ?_, hK _ ?_⟩; (first | fail); clear hK K))) | (refine gLex_undef rfl rfl rfl (by kernel_rfl) (fun K hK => ?_); go_simp; refine hK _ ?_; clear hK K) | (refine gLex_ask rfl rfl rfl ?_; first | (apply gAsk_yes; kernel_rfl; intro K hK; (go_simp; (try (simp only [↓IntWalk.iteOmega]; try go_simp)); (try simp (disch := omega) only [IntWalk.i64_in]); (try simp (disch := omega) only [IntWalk.u64_in]); first | (refine hK _ ?_; clear hK K) | (apply Exists.intro; refine ⟨fun x => ?_, hK _ ?_⟩; (first | fail); clear hK K))) | ((first | apply gAsk_no1 | apply gAsk_no2); kernel_rfl; intro K hK; simp [go_sem]; refine hK _ ?_; clear hK K) | (apply gAsk_part; kernel_rfl; all_goals (intro h K hK; (try simp only [Bool.not_true] at h); (try simp only [Bool.not_false] at h); (try simp only [decide_eq_true_eq] at h); (try simp only [decide_eq_false_iff_not] at h); first | (exfalso; first | contradiction | omega) | (go_simp; (try (simp only [↓IntWalk.iteOmega]; try go_simp)); (try simp (disch := omega) only [IntWalk.i64_in]); (try simp (disch := omega) only [IntWalk.u64_in]); first | (refine hK _ ?_; clear hK K) | (apply Exists.intro; refine ⟨fun x => ?_, hK _ ?_⟩; (first | fail); clear hK K))))))); all_goals ((apply gLex_end); intro x))
          go_wp2
          refine ⟨⟨k + 1, by omega, by go_num, Grows.later (by repeat (first | exact Grows.refl _ | refine Grows.now ?_ _ | refine Grows.new ?_ _ | refine Grows.drewN ?_ _ | refine Grows.drew ?_ | assumption | (refine Grows.set ?_ (by first | omega | (simp; done) | (simp; omega)) _))), HE.out⟩, by simp [intOf]; omega⟩
        · have HV : Hid (¬ l = l') := fun e => he (by rw [e])
          have hd : (gi l k == gi l' k) = false := by simpa using he
          clear he
          go_wp2_with fail
          ((first | refine wp_region_gen (by kernel_rfl) (by kernel_rfl) ?_); (repeat' (first | (refine gLex_val0 rfl (by kernel_rfl) (fun K hK => ?_); (go_simp; (try (simp only [↓IntWalk.iteOmega]; try go_simp)); (try simp (disch := omega) only [IntWalk.i64_in]); (try simp (disch := omega) only [IntWalk.u64_in]); first | (refine hK _ ?_; clear hK K) | (apply Exists.intro; refine ⟨fun x => ?_, hK _ ?_⟩; (first | fail); clear hK K))) | (refine gLex_undef rfl rfl rfl (by kernel_rfl) (fun K hK => ?_); go_simp; refine hK _ ?_; clear hK K) | (refine gLex_ask rfl rfl rfl ?_; first | (apply gAsk_yes; kernel_rfl; intro K hK; (go_simp; (try (simp only [↓IntWalk.iteOmega]; try go_simp)); (try simp (disch := omega) only [IntWalk.i64_in]); (try simp (disch := omega) only [IntWalk.u64_in]); first | (refine hK _ ?_; clear hK K) | (apply Exists.intro; refine ⟨fun x => ?_, hK _ ?_⟩; (first | fail); clear hK K))) | ((first | apply gAsk_no1 | apply gAsk_no2); kernel_rfl; intro K hK; simp [go_sem]; refine hK _ ?_; clear hK K) | (apply gAsk_part; kernel_rfl; all_goals (intro h K hK; (try simp only [Bool.not_true] at h); (try simp only [Bool.not_false] at h); (try simp only [decide_eq_true_eq] at h); (try simp only [decide_eq_false_iff_not] at h); first | (exfalso; first | contradiction | omega) | (go_simp; (try (simp only [↓IntWalk.iteOmega]; try go_simp)); (try simp (disch := omega) only [IntWalk.i64_in]); (try simp (disch := omega) only [IntWalk.u64_in]); first | (refine hK _ ?_; clear hK K) | (apply Exists.intro; refine ⟨fun x => ?_, hK _ ?_⟩; (first | fail); clear hK K))))))); all_goals ((apply gLex_end); intro x))
          go_wp2
          go_ret
          exact ⟨ret_bool (decide_eq_false HV.out).symm, (by repeat (first | exact Grows.refl _ | refine Grows.now ?_ _ | refine Grows.new ?_ _ | refine Grows.drewN ?_ _ | refine Grows.drew ?_ | assumption | (refine Grows.set ?_ (by first | omega | (simp; done) | (simp; omega)) _)))⟩
  · have HV : Hid (¬ l = l') := fun e => hnm (by rw [← HL.out, ← HM.out, e])
    have hd : ((n : Int) == (m : Int)) = false := beq_eq_false_iff_ne.2 (by omega)
    go_enter Try.func23, Try.ntmps23
    go_wp2
    go_ret
    exact ⟨ret_bool (decide_eq_false HV.out).symm, (by repeat (first | exact Grows.refl _ | refine Grows.now ?_ _ | refine Grows.new ?_ _ | refine Grows.drewN ?_ _ | refine Grows.drew ?_ | assumption | (refine Grows.set ?_ (by first | omega | (simp; done) | (simp; omega)) _)))⟩
end Go.Proofs.Ytiljgkaffgclgaa

/- Contract: the chapter's example (parts). -/
namespace Go.Proofs.Ytiljgkaffgclgaa
open Go Go.RowKit
def ex17 : List Edg := [⟨0, 1, 1⟩, ⟨1, 0, 1⟩, ⟨1, 2, 1⟩]
theorem ex17_is : strongL 3 ex17 = [0, 0, 2] := by decide +kernel
set_option maxRecDepth 20000 in
set_option maxHeartbeats 2000000 in
theorem alive17 (w : World) : Calls Try.prog 38 #[] w fun e w' => e = .returned (.bool true) ∧ Grows w w' := by
  have C := hide (fun (W : World) (A : Option Addr) (h : Rd W A 3 3 (esCells ex17)) => show Calls Try.prog 61 #[.agg #[.int .i64 3, .slice A 3 3]] W fun e w' =>
      ∃ g, e = .returned (.slice (some ⟨g, 0, none⟩) 3 3) ∧ Rd w' (some ⟨g, 0, none⟩) 1 3 (([0, 0, 2] : List Int).map (.int .i64)) ∧ Grows W w' from by
    have := tjStrong 3 A 3 ex17 W h (by decide +kernel)
    rw [ex17_is] at this
    exact this)
  go_enter Try.func38, Try.ntmps38
  go_wp2_with fail
  refine (C.out _ _ ((Rd.made (w := w) (t := 77) (size := 3) (n := 3) (esCells ex17) rfl))).mono ?_
  rintro e w1 ⟨go, rfl, hr, hg⟩
  obtain ⟨x, rfl⟩ := hg.later
  have HR := hide (fun (W : World) (hg : Grows x.now W) (A : Option Addr) (h : Rd W A 1 3 (([0, 0, 2] : List Int).map (.int .i64))) => r1Same (some ⟨go, 0, none⟩) 3 3 [0, 0, 2] A 3 3 [0, 0, 2] W (hr.grows hg) (by omega) h (by omega))
  clear hr hg
  go_wp2_with fail
  refine (HR.out _ (by repeat (first | exact Grows.refl _ | refine Grows.now ?_ _ | refine Grows.new ?_ _ | refine Grows.drewN ?_ _ | refine Grows.drew ?_ | assumption | (refine Grows.set ?_ (by first | omega | (simp; done) | (simp; omega)) _))) _ (Rd.made (w := x.now) (t := 3) (size := 1) (n := 3) (([0, 0, 2] : List Int).map (.int .i64)) rfl)).mono ?_
  rintro e w2 ⟨rfl, hg⟩
  obtain ⟨y, rfl⟩ := Grows.later2 (((Grows.refl x.now).new _).trans hg)
  clear hg
  go_wp2_with fail
  go_ret
  exact ⟨rfl, (by repeat (first | exact Grows.refl _ | refine Grows.now ?_ _ | refine Grows.new ?_ _ | refine Grows.drewN ?_ _ | refine Grows.drew ?_ | assumption | (refine Grows.set ?_ (by first | omega | (simp; done) | (simp; omega)) _)))⟩
end Go.Proofs.Ytiljgkaffgclgaa

/- A row of numbers from whose front one is taken, and to whose end one is appended. -/
namespace Go.Proofs.Ytiljgkaffgclgaa
open Go Go.RowKit
/-- The n numbers from place off of block g on; there is room for c. -/
structure QAt (w : World) (g off n c : Nat) (xs : List Nat) : Prop where
  len : xs.length = n
  cap : n ≤ c
  big : c ≤ maxLen
  is : ∃ cur, w.heap[g]? = some (.cells cur 3 (0, 0)) ∧ (0 < c → off + c ≤ cur.size) ∧ ∀ j u, (nv xs)[j]? = some u → cur[off + j]? = some u
section
variable {w w' : World} {g off n c : Nat} {xs : List Nat} {S : Nat → Prop}
theorem QAt.lt (h : QAt w g off n c xs) : g < w.heap.size := by
  obtain ⟨cur, h1, _⟩ := h.is
  exact (Array.getElem?_eq_some_iff.1 h1).1
theorem QAt.touch (h : QAt w g off n c xs) (k : Touch S w w') (hS : ¬ S g) : QAt w' g off n c xs := by
  obtain ⟨cur, h1, h2⟩ := h.is
  exact ⟨h.len, h.cap, h.big, cur, k.at hS h1, h2⟩
theorem QAt.grow (h : QAt w g off n c xs) (k : Grows w w') : QAt w' g off n c xs := h.touch (k.touch fun _ => False) id
theorem QAt.other (h : QAt w g off n c xs) {p : Addr} (hp : p.block ≠ g) (u : Value) : QAt (w.setCell p u) g off n c xs := by
  obtain ⟨cur, h1, h2⟩ := h.is
  exact ⟨h.len, h.cap, h.big, cur, by rw [heap_setCell _ _ _ _ (Ne.symm hp)]; exact h1, h2⟩
theorem QAt.ne {g' : Nat} {t' : TypeId} {cs' : List Value} (h : QAt w g off n c xs) (k : Arr w g' t' cs') (ht : 3 ≠ t') : g ≠ g' := fun e' => by
  subst e'
  obtain ⟨cur, h1, _⟩ := h.is
  have := h1.symm.trans k.is
  injection this with this
  injection this with _ this
  exact ht this
theorem QAt.at (h : QAt w g off n c xs) {j : Nat} (hj : j < n) : Mine w ⟨g, off + j, none⟩ (.int .i64 (gn xs j : Int)) := by
  obtain ⟨cur, h1, _, h3⟩ := h.is
  exact ⟨by simp [World.cell?, h1, h3 j _ (nv_at (by have := h.len; omega))], by simp [World.frozen?, h1]⟩
theorem QAt.head {v : Nat} {r : List Nat} (h : QAt w g off n c (v :: r)) : Mine w ⟨g, off, none⟩ (.int .i64 (v : Int)) := h.at (j := 0) (by have := h.len; simp at this; omega)
theorem QAt.tail {v : Nat} {r : List Nat} (h : QAt w g off (n + 1) c (v :: r)) : QAt w g (if c = 1 then off else off + 1) n (c - 1) r := by
  obtain ⟨cur, h1, h2, h3⟩ := h.is
  have hl := h.len
  have hc := h.cap
  have hb := h.big
  simp only [List.length_cons] at hl
  refine ⟨by omega, by omega, by omega, cur, h1, fun h4 => ?_, fun j u hu => ?_⟩
  · rw [if_neg (by omega)]
    have := h2 (by omega)
    omega
  · have hj := (List.getElem?_eq_some_iff.1 hu).1
    simp only [nv_len] at hj
    rw [if_neg (by omega)]
    have := h3 (j + 1) u (by simpa [nv] using hu)
    rwa [show off + 1 + j = off + (j + 1) by omega]
theorem QAt.one {s : Nat} (h : Arr w g 3 [.int .i64 (s : Int)]) : QAt w g 0 1 1 [s] := by
  refine ⟨rfl, Nat.le_refl _, by unfold maxLen; omega, _, h.is, fun _ => by simp, fun j u hu => ?_⟩
  have hj := (List.getElem?_eq_some_iff.1 hu).1
  simp only [nv_len, List.length_singleton] at hj
  obtain rfl : j = 0 := by omega
  simpa [nv] using hu
/-- append of one number: in its place, if there is room, else in a new block. -/
theorem run_appQ (h : QAt w g off n c xs) (ty : TypeId) (b m' : Nat) (u : Nat) (hv : Holds w ⟨b, 0, none⟩ (.int .i64 (u : Int))) (hn : n + 1 ≤ 1000000000000) :
    ∃ g' off' c' w', (Builtin.append_ #[25, 25] ty #[.slice (some ⟨g, off, none⟩) n c, .slice (some ⟨b, 0, none⟩) 1 m']).run Try.prog w = .ok (.slice (some ⟨g', off', none⟩) (n + 1) c') w' ∧
      QAt w' g' off' (n + 1) c' (xs ++ [u]) ∧ Touch (fun k => k = g) w w' ∧ (g' = g ∨ New w w' g') := by
  obtain ⟨i, z, bytes, hi, hz, hsz, hby, hzs, hb64⟩ := elemInt.info
  obtain ⟨cur, k1, k2, k3⟩ := h.is
  have hl := h.len
  have hc := h.cap
  have hb := h.big
  have hnews : ∀ j x, [Value.int .i64 (u : Int)][j]? = some x → w.cell? ((⟨b, 0, none⟩ : Addr).add j) = some x := fun j x hx => by
    have hj : j = 0 := by
      have := (List.getElem?_eq_some_iff.1 hx).1
      simpa using this
    subst hj
    simp at hx
    subst hx
    simpa [Addr.add] using hv.cell
  by_cases hroom : n + 1 ≤ c
  · have hfit := k2 (by omega)
    have hcell : (w.cell? ⟨g, off + n, none⟩).isSome = true := by simp [World.cell?, k1]; omega
    have hr := run_append_room_cells (P := Try.prog) w 25 ty 3 i elemInt.under hi g off n c ⟨b, 0, none⟩ 1 m' [.int .i64 (u : Int)] (by simp [hsz]) hnews (by intro x hx; simp at hx; rw [hx]; rfl) hroom
      (fun j hj => by
        simp at hj; subst hj
        rw [hsz]; simpa using hcell) (fun j _ => by simp [World.frozen?, k1])
    rw [hsz, Nat.mul_one] at hr
    refine ⟨g, off, c, _, hr, ⟨by simp [hl], hroom, hb, cur.setIfInBounds (off + n) (.int .i64 (u : Int)), ?_, fun _ => by simpa using hfit, fun j x hx => ?_⟩, (Touch.refl (fun k => k = g) w).set (p := ⟨g, off + n, none⟩) (.inl rfl) _, .inl rfl⟩
    · simp [World.setCells, World.setCell, Array.getElem?_modify, k1]
    · have e2 : nv (xs ++ [u]) = nv xs ++ [.int .i64 (u : Int)] := by simp [nv]
      rw [e2] at hx
      by_cases hj : j < n
      · rw [List.getElem?_append_left (by rw [nv_len]; omega)] at hx
        rw [Array.getElem?_setIfInBounds_ne (by omega)]
        exact k3 j x hx
      · have hj2 := (List.getElem?_eq_some_iff.1 hx).1
        simp only [List.length_append, nv_len, List.length_singleton] at hj2
        obtain rfl : j = n := by omega
        rw [List.getElem?_append_right (by rw [nv_len]; omega), nv_len, hl] at hx
        simp at hx
        subst hx
        rw [Array.getElem?_setIfInBounds_self]
        rw [if_pos (by omega)]
  · obtain ⟨v', w', hr, ho, hg⟩ := run_append_arg_grows (P := Try.prog) w 25 ty 3 i z 1 bytes elemInt.under hi hz hsz hby hzs (by omega) ⟨g, off, none⟩ n c (nv xs) (by rw [nv_len]; omega)
      (fun j x hx => by
        have := k3 j x hx
        unfold Addr.add
        split
        · rename_i h0
          subst h0
          simpa [World.cell?, k1] using this
        · simpa [World.cell?, k1] using this) ⟨b, 0, none⟩ 1 m' [.int .i64 (u : Int)] rfl hnews (by omega) (by unfold maxLen; omega) (Nat.le_trans (Nat.mul_le_mul hn hb64) (by omega))
    obtain ⟨A', c'', rfl⟩ := own_form ho
    have ho' : Own w' w.heap.size 3 1 A' (n + 1) c'' (nv xs ++ [.int .i64 (u : Int)]) := ho
    obtain ⟨g', cur', rfl, hge, hh, hnc, hcs, ht⟩ := ho'.at_ (by omega)
    have hm : c'' ≤ maxLen := by
      rcases ho.2 with ⟨h1, _⟩ | ⟨g2, cap, cur2, h1, _, _, _, h5, _⟩
      · cases h1
      · injection h1 with _ _ h7; subst h7; exact h5
    refine ⟨g', 0, c'', w', hr, ⟨by simp [hl], hnc, hm, cur', hh, fun _ => by rw [hcs]; omega, fun j x hx => ?_⟩, (Touch.refl _ w).grown hg (fun k hk => by cases hk), .inr ⟨hge, (Array.getElem?_eq_some_iff.1 hh).1⟩⟩
    have e2 : nv (xs ++ [u]) = nv xs ++ [.int .i64 (u : Int)] := by simp [nv]
    rw [e2, ← ht] at hx
    have hj : j < (n + 1) * 1 := by
      rcases Nat.lt_or_ge j ((n + 1) * 1) with h | h
      · exact h
      · rw [List.getElem?_eq_none (by simp; omega)] at hx; cases hx
    rw [List.getElem?_take, if_pos hj] at hx
    rw [Nat.zero_add]
    simpa using hx
variable {F : Fence} {m : Nat} {ops : Array Oper} {rest : List Oper} {o : Oper} {a : Act} {Q : Exit → Act → World → Prop}
/-- append in a round of a range over a function. -/
theorem wp_appQ (hgd : o.guard = none) (s x : Operand) (ho : o.op = .call { callee := .builtin .append, args := #[s, x], argTypes := #[25, 25] })
    (h : QAt w g off n c xs) (hs : a.eval s = .slice (some ⟨g, off, none⟩) n c) (b m' u : Nat) (hx : a.eval x = .slice (some ⟨b, 0, none⟩) 1 m') (hv : Holds w ⟨b, 0, none⟩ (.int .i64 (u : Int))) (hn : n + 1 ≤ 1000000000000)
    (hk : ∀ g' off' c' w', QAt w' g' off' (n + 1) c' (xs ++ [u]) → Touch (fun k => k = g) w w' → (g' = g ∨ New w w' g') → wpListIn F m Try.prog ops Q rest (a.put o.dst (.slice (some ⟨g', off', none⟩) (n + 1) c')) w') :
    wpListIn F m Try.prog ops Q (o :: rest) a w := by
  refine wpListIn_plain hgd fun K hK' => ?_
  obtain ⟨g', off', c', w', hr, h1, h2, h3⟩ := run_appQ h o.type b m' u hv hn
  unfold Oper.wpIn
  refine ⟨?_, ?_⟩
  · simp [Oper.about, ho, resolve, Target.leads, Sem.run_pure]
  · rw [Oper.semAt_plain F _ _ (by rw [ho]; intro c hc'; cases hc')]
    simp [execOp, ho, resolve, invoke, builtin, hs, hx, hr, Result.andThen]
    exact hK' _ _ (hk g' off' c' w' h1 h2 h3)
end
end Go.Proofs.Ytiljgkaffgclgaa

/- Contracts: which graphs may be gone through. -/
namespace Go.Proofs.Ytiljgkaffgclgaa
open Go Go.RowKit
def lightG (N : Int) (n : Nat) : Bool := decide ((N ≤ 100 ∨ 4096 < N) ∧ n ≤ 300)
set_option maxHeartbeats 400000 in
theorem lLight (N : Int) (A : Option Addr) (n c : Nat) (w : World) : Calls Try.prog 29 #[.agg #[.int .i64 N, .slice A n c]] w fun e w' => e = .returned (.bool (lightG N n)) ∧ Grows w w' := by
  go_enter Try.func29, Try.ntmps29
  go_wp2
  all_goals go_ret
  all_goals exact ⟨ret_bool (bool_ext (by unfold lightG; simp; try omega)), (by repeat (first | exact Grows.refl _ | refine Grows.now ?_ _ | refine Grows.new ?_ _ | refine Grows.drewN ?_ _ | refine Grows.drew ?_ | assumption | (refine Grows.set ?_ (by first | omega | (simp; done) | (simp; omega)) _)))⟩

end Go.Proofs.Ytiljgkaffgclgaa

/- Contracts: the document's answer on who is come to; are two rows of truths the same? -/
namespace Go.Proofs.Ytiljgkaffgclgaa
open Go Go.RowKit
attribute [local go_sem] Oper.semAt_some
theorem run_makeBools2 (n : Nat) (hn : n ≤ 1000000000) (w : World) : (Instr.makeSlice 68 (.int .i64 (n : Int)) (.int .i64 (n : Int))).run Try.prog w = .ok (.slice (some ⟨w.heap.size, 0, none⟩) n n) (w.alloc (.cells (List.replicate n (Value.bool false)).toArray 4)) := by
  have h : (Try.prog.info? 4).map (fun i => (i.zero, i.size, i.bytes)) = some (some (.bool false), 1, 1) := by kernel_rfl
  obtain ⟨i, h1, h2, h3, h4⟩ := info_parts h
  have := run_make_row (P := Try.prog) 68 4 i (.bool false) Try.underlying68 h1 h2 h3 rfl .i64 .i64 n (by rw [h4]; omega) (by omega) w
  have e : madeCells #[Value.bool false] n = (List.replicate n (Value.bool false)).toArray := Array.ext' (by rw [toList_madeCells_one])
  rw [e] at this
  exact this
/-- A row of truths of one's own. -/
def RBAt (W0 : World) (gd : Nat) (L : List Bool) (wr : World) : Prop :=
  ∃ y : Later W0, wr = y.now ∧ Arr y.now gd 4 (L.map .bool) ∧ W0.heap.size ≤ gd
theorem RBAt.grow {W0 : World} {gd : Nat} {L : List Bool} {wr w2 : World} (h : RBAt W0 gd L wr) (hg : Grows wr w2) : RBAt W0 gd L w2 := by
  obtain ⟨y, rfl, h1, h2⟩ := h
  exact ⟨⟨w2, y.grows.trans hg⟩, rfl, h1.grow hg, h2⟩
theorem RBAt.put {W0 : World} {gd : Nat} {L : List Bool} {wr w2 : World} (h : RBAt W0 gd L wr) (hg : Grows wr w2) (j : Nat) (b : Bool) : RBAt W0 gd (L.set j b) (w2.setCell ⟨gd, j, none⟩ (.bool b)) := by
  obtain ⟨y, rfl, h1, h2⟩ := h.grow hg
  have hk : Grows W0 (y.now.setCell ⟨gd, j, none⟩ (.bool b)) := ((Touch.refl (fun k => k = gd) _).set (.inl rfl) _).later y.grows (fun k hk => by rw [hk]; exact h2)
  refine ⟨⟨_, hk⟩, rfl, ?_, h2⟩
  rw [List.map_set]
  exact h1.set j _
theorem bb_at {L : List Bool} {j : Nat} (h : j < L.length) : (L.map Value.bool)[j]? = some (.bool (bb L j)) := by simp [bb, h]
set_option maxRecDepth 40000 in
set_option maxHeartbeats 8000000 in
theorem r17Reach (N s : Nat) (A : Option Addr) (c : Nat) (E : List Edg) (back : Bool) (w : World) (h : Rd w A 3 E.length (esCells E)) (hr : rightF N E = 0) (hs : s < N) :
    Calls Try.prog 41 #[.agg #[.int .i64 (N : Int), .slice A E.length c], .int .i64 (s : Int), .bool back] w fun e w' => ∃ g, e = .returned (.slice (some ⟨g, 0, none⟩) N N) ∧ Arr w' g 4 ((reachL N E s back).map .bool) ∧ Grows w w' := by
  obtain ⟨r1, r2, r3, r4, r5⟩ := right_in hr
  rw [Int.toNat_natCast] at r4
  have C0 := hide (fun (W : World) (g : Grows w W) => by have := r5Right N A E.length c E W (h.grows g) (by omega); rw [hr] at this; exact this)
  have mb := fun (w : World) => run_makeBools2 N (by omega) w
  have HR := hide h
  have HE := hide r4
  have hN : N ≤ 4096 := by omega
  have hEl : E.length ≤ 16384 := r3
  clear h hr r1 r2 r3 r4 r5
  go_enter Try.func41, Try.ntmps41
  go_upto_region 4 with (go_at_call 16; refine (C0.out _ (by repeat (first | exact Grows.refl _ | refine Grows.now ?_ _ | refine Grows.new ?_ _ | refine Grows.drewN ?_ _ | refine Grows.drew ?_ | assumption | (refine Grows.set ?_ (by first | omega | (simp; done) | (simp; omega)) _)))).mono ?_; rintro e w' ⟨rfl, hg⟩; obtain ⟨x0, rfl⟩ := hg.later; clear hg)
  have z1 : Arr x0.now w.heap.size 24 [.int .i64 (N : Int), .slice A E.length c] := (Arr.make w _ _).grow x0.grows
  have hgw : Grows w x0.now := (by repeat (first | exact Grows.refl _ | refine Grows.now ?_ _ | refine Grows.new ?_ _ | refine Grows.drewN ?_ _ | refine Grows.drew ?_ | assumption | (refine Grows.set ?_ (by first | omega | (simp; done) | (simp; omega)) _)))
  clear C0 mb
  generalize w.heap.size = b1 at *
  have hRB0 : RBAt x0.now x0.now.heap.size (List.replicate N false) (x0.now.alloc (Obj.cells (Array.replicate N (Value.bool false)) 4)) := by
    rw [← List.toArray_replicate]
    exact ⟨⟨_, (Grows.refl _).new _⟩, rfl, by rw [List.map_replicate]; exact Arr.make _ _ _, Nat.le_refl _⟩
  generalize (x0.now.alloc (Obj.cells (Array.replicate N (Value.bool false)) 4)) = W1 at *
  generalize x0.now.heap.size = gd at *
  obtain ⟨y, rfl, hd0, _⟩ := id hRB0
  have m0 : Mine y.now ⟨gd, s, none⟩ (.bool (bb (List.replicate N false) s)) := hd0.mine s (bb_at (by simpa using hs))
  clear hd0
  go_wp2_with fail
  have hRB1 : RBAt x0.now gd (begB N s) (y.now.setCell ⟨gd, s, none⟩ (.bool true)) := hRB0.put (Grows.refl _) s true
  generalize y.now.setCell ⟨gd, s, none⟩ (.bool true) = W2 at *
  obtain ⟨y2, rfl, _⟩ := id hRB1
  have HB := hide hRB1
  have hgd : x0.now.heap.size ≤ gd := by obtain ⟨_, _, _, h⟩ := hRB1; exact h
  clear hRB0 hRB1 m0
  have HIN := hide (fun i (hi : i < E.length) => (⟨HE.out.f i hi, HE.out.t i hi⟩ : (fN E i < N ∧ (ge E i).f = (fN E i : Int)) ∧ (tN E i < N ∧ (ge E i).t = (tN E i : Int))))
  go_loopw [8] (fun i wr => ∃ k : Nat, k ≤ N ∧ i = .int .i64 (k : Int) ∧ RBAt x0.now gd (rnKB E back (begB N s) k) wr) (fun i _ => N - (Go.RowKit.intOf i).toNat)
  case atStart => exact ⟨0, by omega, by go_num, HB.out⟩
  case round =>
    obtain ⟨k, hk, rfl, hb⟩ := hrel
    obtain ⟨y3, rfl, _⟩ := id hb
    have HBK := hide hb
    clear hb HB
    by_cases hlt : k < N
    · have HL := hide (show (rnKB E back (begB N s) k).length = N from by rw [rnKB_len]; simp [begB])
      have HS1 := hide (show rnKB E back (begB N s) (k + 1) = rlKB E back (rnKB E back (begB N s) k) E.length from rfl)
      have HS2 := hide (fun (d : List Bool) (j : Nat) => rlKB_succ (E := E) (back := back) d j)
      generalize rnKB E back (begB N s) k = D at *
      go_wp2_with fail
      go_loopw [9] (fun i wr => ∃ j : Nat, j ≤ E.length ∧ i = .int .i64 (j : Int) ∧ RBAt x0.now gd (rlKB E back D j) wr) (fun i _ => E.length - (Go.RowKit.intOf i).toNat)
      case atStart => exact ⟨0, by omega, by go_num, HBK.out⟩
      case round =>
        obtain ⟨j, hj, rfl, hb⟩ := hrel
        obtain ⟨y4, rfl, hd, _⟩ := id hb
        have HBJ := hide hb
        clear hb HBK
        by_cases hlj : j < E.length
        · obtain ⟨⟨hf, ef⟩, ht, et⟩ := HIN.out j hlj
          have hll : (rlKB E back D j).length = N := by rw [rlKB_len]; exact HL.out
          have mu := hd.mine (fN E j) (bb_at (by rw [hll]; exact hf))
          have mv := hd.mine (tN E j) (bb_at (by rw [hll]; exact ht))
          obtain ⟨b9, off9, rfl, hc9⟩ := HR.out.edgesH (by omega)
          obtain ⟨z1', z2', z3'⟩ := hc9 j hlj
          rw [ef] at z1'
          rw [et] at z2'
          have c1 : Holds x0.now _ _ := ⟨hgw.keeps z1'.cell⟩
          have c2 : Holds x0.now _ _ := ⟨hgw.keeps z2'.cell⟩
          have c3 : Holds x0.now _ _ := ⟨hgw.keeps z3'.cell⟩
          have hst := HS2.out D j
          unfold rlB nN oN at hst
          clear z1' z2' z3' hc9 hd ef et hll
          generalize rlKB E back D j = L at *
          generalize (ge E j).w = ew at *
          cases back with
          | false =>
            simp only [Bool.false_eq_true, if_false] at hst
            generalize fN E j = uu at *
            generalize tN E j = vv at *
            obtain ⟨bu, hbu⟩ : ∃ bu, bb L uu = bu := ⟨_, rfl⟩
            rw [hbu] at mu hst
            cases bu with
            | true =>
              rw [if_pos rfl] at hst
              have HST := hide hst
              clear hst hbu
              go_wp2_with fail
              go_roundw
              case measure => simp [Go.RowKit.intOf]; omega
              case rel => exact ⟨j + 1, by omega, by go_num, by rw [HST.out]; exact HBJ.out.put (by repeat (first | exact Grows.refl _ | refine Grows.now ?_ _ | refine Grows.new ?_ _ | refine Grows.drewN ?_ _ | refine Grows.drew ?_ | assumption | (refine Grows.set ?_ (by first | omega | (simp; done) | (simp; omega)) _))) _ _⟩
            | false =>
              rw [if_neg Bool.false_ne_true] at hst
              have HST := hide hst
              clear hst hbu
              go_wp2_with fail
              go_roundw
              case measure => simp [Go.RowKit.intOf]; omega
              case rel => exact ⟨j + 1, by omega, by go_num, by rw [HST.out]; exact HBJ.out.grow (by repeat (first | exact Grows.refl _ | refine Grows.now ?_ _ | refine Grows.new ?_ _ | refine Grows.drewN ?_ _ | refine Grows.drew ?_ | assumption | (refine Grows.set ?_ (by first | omega | (simp; done) | (simp; omega)) _)))⟩
          | true =>
            simp only [if_true] at hst
            generalize fN E j = uu at *
            generalize tN E j = vv at *
            obtain ⟨bu, hbu⟩ : ∃ bu, bb L vv = bu := ⟨_, rfl⟩
            rw [hbu] at mv hst
            cases bu with
            | true =>
              rw [if_pos rfl] at hst
              have HST := hide hst
              clear hst hbu
              go_wp2_with fail
              go_roundw
              case measure => simp [Go.RowKit.intOf]; omega
              case rel => exact ⟨j + 1, by omega, by go_num, by rw [HST.out]; exact HBJ.out.put (by repeat (first | exact Grows.refl _ | refine Grows.now ?_ _ | refine Grows.new ?_ _ | refine Grows.drewN ?_ _ | refine Grows.drew ?_ | assumption | (refine Grows.set ?_ (by first | omega | (simp; done) | (simp; omega)) _))) _ _⟩
            | false =>
              rw [if_neg Bool.false_ne_true] at hst
              have HST := hide hst
              clear hst hbu
              go_wp2_with fail
              go_roundw
              case measure => simp [Go.RowKit.intOf]; omega
              case rel => exact ⟨j + 1, by omega, by go_num, by rw [HST.out]; exact HBJ.out.grow (by repeat (first | exact Grows.refl _ | refine Grows.now ?_ _ | refine Grows.new ?_ _ | refine Grows.drewN ?_ _ | refine Grows.drew ?_ | assumption | (refine Grows.set ?_ (by first | omega | (simp; done) | (simp; omega)) _)))⟩
        · obtain rfl : j = E.length := by omega
          clear hd
          go_wp2_with fail
          go_roundw
          case measure => simp [Go.RowKit.intOf]; omega
          case rel => exact ⟨k + 1, by omega, by go_num, by rw [HS1.out]; exact HBJ.out⟩
    · obtain rfl : k = N := by omega
      go_wp2_with fail
      go_ret
      obtain ⟨y5, e5, h5, _⟩ := HBK.out
      exact ⟨gd, rfl, by rw [e5]; exact h5, hgw.trans y3.grows⟩
set_option maxRecDepth 20000 in
set_option maxHeartbeats 2000000 in
theorem r17ReachNo (N s : Int) (A : Option Addr) (n c : Nat) (E : List Edg) (back : Bool) (w : World) (h : Rd w A 3 n (esCells E)) (hn : n ≤ 1000000) (hr : rightF N E ≠ 0 ∨ s < 0 ∨ N ≤ s) :
    Calls Try.prog 41 #[.agg #[.int .i64 N, .slice A n c], .int .i64 s, .bool back] w fun e w' => e = .returned (.slice none 0 0) ∧ Grows w w' := by
  have C0 := hide (fun (W : World) (g : Grows w W) => r5Right N A n c E W (h.grows g) hn)
  clear h
  by_cases h0 : rightF N E = 0
  · have h1 : s < 0 ∨ N ≤ s := hr.resolve_left (fun e => e h0)
    rw [h0] at C0
    clear hr
    by_cases hs0 : s < 0
    · clear h1
      go_enter Try.func41, Try.ntmps41
      go_wp2_with (go_at_call 16; refine (C0.out _ (by repeat (first | exact Grows.refl _ | refine Grows.now ?_ _ | refine Grows.new ?_ _ | refine Grows.drewN ?_ _ | refine Grows.drew ?_ | assumption | (refine Grows.set ?_ (by first | omega | (simp; done) | (simp; omega)) _)))).mono ?_; rintro e w' ⟨rfl, hg⟩; obtain ⟨x0, rfl⟩ := hg.later; clear hg)
      go_ret
      exact ⟨rfl, (by repeat (first | exact Grows.refl _ | refine Grows.now ?_ _ | refine Grows.new ?_ _ | refine Grows.drewN ?_ _ | refine Grows.drew ?_ | assumption | (refine Grows.set ?_ (by first | omega | (simp; done) | (simp; omega)) _)))⟩
    · have h2 : N ≤ s := h1.resolve_left hs0
      have b1 : decide (s < 0) = false := decide_eq_false hs0
      have b2 : decide (N ≤ s) = true := decide_eq_true h2
      have b3 : 0 ≤ s := Int.not_lt.1 hs0
      clear h1 hs0
      go_enter Try.func41, Try.ntmps41
      go_wp2_with (go_at_call 16; refine (C0.out _ (by repeat (first | exact Grows.refl _ | refine Grows.now ?_ _ | refine Grows.new ?_ _ | refine Grows.drewN ?_ _ | refine Grows.drew ?_ | assumption | (refine Grows.set ?_ (by first | omega | (simp; done) | (simp; omega)) _)))).mono ?_; rintro e w' ⟨rfl, hg⟩; obtain ⟨x0, rfl⟩ := hg.later; clear hg)
      all_goals first | (exfalso; omega) | (go_ret; exact ⟨rfl, (by repeat (first | exact Grows.refl _ | refine Grows.now ?_ _ | refine Grows.new ?_ _ | refine Grows.drewN ?_ _ | refine Grows.drew ?_ | assumption | (refine Grows.set ?_ (by first | omega | (simp; done) | (simp; omega)) _)))⟩)
  · have hb : (rightF N E == 0) = false := beq_eq_false_iff_ne.2 h0
    clear hr
    generalize rightF N E = r at *
    go_enter Try.func41, Try.ntmps41
    go_wp2_with (go_at_call 16; refine (C0.out _ (by repeat (first | exact Grows.refl _ | refine Grows.now ?_ _ | refine Grows.new ?_ _ | refine Grows.drewN ?_ _ | refine Grows.drew ?_ | assumption | (refine Grows.set ?_ (by first | omega | (simp; done) | (simp; omega)) _)))).mono ?_; rintro e w' ⟨rfl, hg⟩; obtain ⟨x0, rfl⟩ := hg.later; clear hg)
    all_goals (go_ret; exact ⟨rfl, (by repeat (first | exact Grows.refl _ | refine Grows.now ?_ _ | refine Grows.new ?_ _ | refine Grows.drewN ?_ _ | refine Grows.drew ?_ | assumption | (refine Grows.set ?_ (by first | omega | (simp; done) | (simp; omega)) _)))⟩)
/-- Two rows of truths. -/
def tvs (l : List Bool) : List Value := l.map .bool
set_option maxRecDepth 20000 in
set_option maxHeartbeats 2000000 in
theorem tr17Nil (w : World) : Calls Try.prog 39 #[.slice none 0 0, .slice none 0 0] w fun e w' => e = .returned (.bool true) ∧ Grows w w' := by
  go_enter Try.func39, Try.ntmps39
  go_wp2_with fail
  go_loopw [5] (fun i wr => i = .int .i64 0 ∧ wr = w) (fun _ _ => 0)
  case atStart => exact ⟨rfl, rfl⟩
  case round =>
    obtain ⟨rfl, rfl⟩ := hrel
    go_wp2_with fail
    go_ret
    exact ⟨rfl, Grows.refl _⟩
set_option maxRecDepth 20000 in
set_option maxHeartbeats 2000000 in
theorem tr17 (n g1 g2 : Nat) (L : List Bool) (w : World) (h1 : Arr w g1 4 (L.map .bool)) (h2 : Arr w g2 4 (L.map .bool)) (hL : L.length = n) (hn : n ≤ 1000000) :
    Calls Try.prog 39 #[.slice (some ⟨g1, 0, none⟩) n n, .slice (some ⟨g2, 0, none⟩) n n] w fun e w' => e = .returned (.bool true) ∧ Grows w w' := by
  have H1 := hide h1
  have H2 := hide h2
  have HL := hide hL
  clear h1 h2 hL
  go_enter Try.func39, Try.ntmps39
  go_wp2_with fail
  go_loopw [5] (fun i wr => ∃ k : Nat, k ≤ n ∧ i = .int .i64 (k : Int) ∧ ∃ y : Later w, wr = y.now) (fun i _ => n - (Go.RowKit.intOf i).toNat)
  case atStart => exact ⟨0, by omega, by go_num, ⟨w, Grows.refl _⟩, rfl⟩
  case round =>
    obtain ⟨k, hk, rfl, y, rfl⟩ := hrel
    by_cases hlt : k < n
    · have m1 := ((H1.out.grow y.grows).mine k (bb_at (by rw [HL.out]; exact hlt)))
      have m2 := ((H2.out.grow y.grows).mine k (bb_at (by rw [HL.out]; exact hlt)))
      generalize bb L k = q at *
      go_upto_region 6 with fail
      ((first | refine wp_region_gen (by kernel_rfl) (by kernel_rfl) ?_); (repeat' (first | (refine gLex_val0 rfl (by kernel_rfl) (fun K hK => ?_); (go_simp; (try (simp only [↓IntWalk.iteOmega]; try go_simp)); (try simp (disch := omega) only [IntWalk.i64_in]); (try simp (disch := omega) only [IntWalk.u64_in]); first | (refine hK _ ?_; clear hK K) | (apply Exists.intro; refine ⟨fun x => ?_, hK _ ?_⟩; (first | fail); clear hK K))) | (refine gLex_undef rfl rfl rfl (by kernel_rfl) (fun K hK => ?_); go_simp; refine hK _ ?_; clear hK K) | (refine gLex_ask rfl rfl rfl ?_; first | (apply gAsk_yes; kernel_rfl; intro K hK; (go_simp; (try (simp only [↓IntWalk.iteOmega]; try go_simp)); (try simp (disch := omega) only [IntWalk.i64_in]); (try simp (disch := omega) only [IntWalk.u64_in]); first | (refine hK _ ?_; clear hK K) | (apply Exists.intro; refine ⟨fun x => ?_, hK _ ?_⟩; (first | fail); clear hK K))) | ((first | apply gAsk_no1 | apply gAsk_no2); kernel_rfl; intro K hK; simp [go_sem]; refine hK _ ?_; clear hK K) | (apply gAsk_part; kernel_rfl; all_goals (intro h K hK; (try simp only [Bool.not_true] at h); (try simp only [Bool.not_false] at h); (try simp only [decide_eq_true_eq] at h); (try simp only [decide_eq_false_iff_not] at h); first | (exfalso; first | contradiction | omega) | (go_simp; (try (simp only [↓IntWalk.iteOmega]; try go_simp)); (try simp (disch := omega) only [IntWalk.i64_in]); (try simp (disch := omega) only [IntWalk.u64_in]); first | (refine hK _ ?_; clear hK K) | (apply Exists.intro; refine ⟨fun x => ?_, hK _ ?_⟩; (first | fail); clear hK K))))))); all_goals ((apply gLex_end); intro y7))
      go_wp2_with fail
      go_roundw
      case measure => simp [Go.RowKit.intOf]; omega
      case rel => exact ⟨k + 1, by omega, by go_num, ⟨_, y.grows.trans y7.grows⟩, rfl⟩
    · obtain rfl : k = n := by omega
      go_wp2_with fail
      go_ret
      exact ⟨rfl, y.grows⟩
/-- May a graph be gone through? -/
def light17 (N : Int) (n : Nat) : Bool := lightG N n && (decide (N ≤ 30) || decide (4096 < N)) && decide (n ≤ 100)
set_option maxRecDepth 20000 in
set_option maxHeartbeats 2000000 in
theorem lLight17 (N : Int) (A : Option Addr) (n c : Nat) (w : World) : Calls Try.prog 37 #[.agg #[.int .i64 N, .slice A n c]] w fun e w' => e = .returned (.bool (light17 N n)) ∧ Grows w w' := by
  have C := hide (fun (W : World) => lLight N A n c W)
  have HD : Hid (light17 N n = (lightG N n && (decide (N ≤ 30) || decide (4096 < N)) && decide (n ≤ 100))) := rfl
  generalize light17 N n = r at *
  generalize lightG N n = q at *
  go_enter Try.func37, Try.ntmps37
  go_wp2_with (go_at_call 29; refine (C.out _).mono ?_; rintro e w' ⟨rfl, hg⟩; obtain ⟨x1, rfl⟩ := hg.later; clear hg)
  all_goals go_ret
  all_goals exact ⟨ret_bool (by rw [HD.out]; apply bool_ext; simp_all; try omega), (by repeat (first | exact Grows.refl _ | refine Grows.now ?_ _ | refine Grows.new ?_ _ | refine Grows.drewN ?_ _ | refine Grows.drew ?_ | assumption | (refine Grows.set ?_ (by first | omega | (simp; done) | (simp; omega)) _)))⟩
end Go.Proofs.Ytiljgkaffgclgaa
