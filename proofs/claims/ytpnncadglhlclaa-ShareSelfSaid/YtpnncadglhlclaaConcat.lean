/- Contracts: rows of numbers, one behind the other. -/
import Derived.Test.YtpnncadglhlclaaRowsB
import Derived.Test.YtpnncadglhlclaaOwn3
import Derived.Lib.AppendZeros
namespace Go.Proofs.Ytpnncadglhlclaa
open Go Go.RowKit
/-- Room for n numbers. -/
theorem growI (n : Nat) (w : World) (hn : n ≤ 1000000) : Calls Try.prog 131 #[.slice none 0 0, .int .i64 (n : Int)] w fun e w' => ∃ A c, e = .returned (.slice A 0 c) ∧ Own w' w.heap.size 3 1 A 0 c [] ∧ Grows w w' := by
  rcases Nat.eq_zero_or_pos n with h0 | h0
  · subst h0
    go_enter Try.func131, Try.ntmps131
    go_wp2
    go_ret
    exact ⟨none, 0, rfl, Own.nil _ _ _ _, (by repeat (first | exact Grows.refl _ | refine Grows.now ?_ _ | refine Grows.new ?_ _ | refine Grows.drewN ?_ _ | refine Grows.drew ?_ | assumption | (refine Grows.set ?_ (by first | omega | (simp; done) | (simp; omega)) _)))⟩
  · have h : (Try.prog.info? 3).map (fun i => (i.zero, i.size, i.bytes)) = some (some (.int .i64 0), 1, 8) := by kernel_rfl
    obtain ⟨i, hi, hz, hs, hb⟩ := info_parts h
    have HR := hide (fun (W : World) ty => Lib.run_append_nil_zeros (P := Try.prog) W 31 3 ty 3 i (.int .i64 0) .i64 .i64 Try.underlying31 Try.underlying3 hi hz n h0 (by omega) (by omega) (by rw [hb]; omega))
    clear h hi hz hs hb
    have hlt : decide ((0 : Int) < (n : Int)) = true := decide_eq_true (by omega)
    have hlt2 : decide (0 < n) = true := decide_eq_true (by omega)
    go_enter Try.func131, Try.ntmps131
    go_wp2_with (at_builtin; refine Lib.wpList_append_run _ rfl _ _ _ _ rfl _ _ rfl rfl _ _ (HR.out _ _) ?_)
    go_ret
    refine ⟨some ⟨w.heap.size, 0, none⟩, grownCap w n 0 3, rfl, ⟨rfl, .inr ⟨w.heap.size, grownCap w n 0 3, Builtin.zeroCells #[.int .i64 0] n ++ Builtin.zeroCells #[.int .i64 0] (grownCap w n 0 3 - n), rfl, Nat.le_refl _, (by show (w.heap.push _)[w.heap.size]? = _; rw [Array.getElem?_push_size]), Nat.zero_le _, grownCap_le_maxLen w n 0 3 (by unfold maxLen; omega), ?_, by simp⟩⟩, (by repeat (first | exact Grows.refl _ | refine Grows.now ?_ _ | refine Grows.new ?_ _ | refine Grows.drewN ?_ _ | refine Grows.drew ?_ | assumption | (refine Grows.set ?_ (by first | omega | (simp; done) | (simp; omega)) _)))⟩
    have := grownCap_ge w n 0 3
    rw [Array.size_append, size_zeroCells, size_zeroCells]
    show n * 1 + (grownCap w n 0 3 - n) * 1 = _
    omega
theorem add_pl (b off i : Nat) : (⟨b, off, none⟩ : Addr).add i = ⟨b, off + i, none⟩ := by
  unfold Addr.add
  split
  · rename_i h; rw [h, Nat.add_zero]
  · rfl
section
variable {w : World} {e : TypeId} {ops : Array Oper} {rest : List Oper} {o : Oper} {a : Act} {Q : Exit → Act → World → Prop}
/-- append of a whole row. -/
theorem wp_appRow {t : TypeId} (E : Elem t e 1) (hgd : o.guard = none) (s x : Operand) (ho : o.op = .call { callee := .builtin .append, args := #[s, x], argTypes := #[t, t] })
    (w0 : World) (hw0 : Grows w0 w) (n c : Nat) (A : Option Addr) (xs : List Value) (hs : a.eval s = .slice A n c) (hown : Own w w0.heap.size e 1 A n c xs) (B : Option Addr) (m d : Nat) (ys : List Value) (hx : a.eval x = .slice B m d)
    (hr : Rd w B 1 m ys) (hnil : B = none → m = 0 ∧ d = 0) (h1 : ∀ u ∈ ys, u.oneCell' = true) (hnm : n + m ≤ 1000000000000)
    (h : ∀ A' c'' (y : Later w0), Own y.now w0.heap.size e 1 A' (n + m) c'' (xs ++ ys) → wpList Try.prog ops Q rest (a.put o.dst (.slice A' (n + m) c'')) y.now) :
    wpList Try.prog ops Q (o :: rest) a w := by
  obtain ⟨i, z, bytes, hi, hz, hsz, hby, hzs, hb64⟩ := E.info
  cases hB : B with
  | none =>
    obtain ⟨rfl, rfl⟩ := hnil hB
    subst hB
    have hy : ys = [] := List.eq_nil_of_length_eq_zero (by have := hr.len; omega)
    subst hy
    have hrun := run_append_owned_none (P := Try.prog) w w0.heap.size t o.type e i 1 E.under hi (.slice A n c) n xs hown
    refine Lib.wpList_append_run w hgd s x t t ho (.slice A n c) (.slice none 0 0) hs hx (.slice A n c) w hrun ?_
    obtain ⟨y, rfl⟩ := hw0.later
    exact h A c y (by rw [List.append_nil]; exact hown)
  | some ad =>
    subst hB
    refine wpList_append_own w hgd s x t ho w0.heap.size e i z 1 bytes E.under hi hz hsz hby hzs E.pos (.slice A n c) n xs hs hown ad m d ys hx (by have := hr.len; omega) (fun j u hu => ?_) h1 (by unfold maxLen; omega) ?_ hw0.size ?_
    · have hj := (List.getElem?_eq_some_iff.1 hu).1
      have hl := hr.len
      obtain ⟨b, off, he, hc⟩ := hr.at_ (by omega)
      obtain rfl : ad = ⟨b, off, none⟩ := Option.some.inj he
      rw [add_pl]
      exact hc j u hu
    · exact Nat.le_trans (Nat.mul_le_mul hnm hb64) (by omega)
    · intro v' w' hown' hgr _
      obtain ⟨A', c'', rfl⟩ := own_form hown'
      have hgw : Grows w0 w' := by
        refine ⟨hgr.os.trans hw0.os, hgr.tape.trans hw0.tape, hgr.output.trans hw0.output, Nat.le_trans hw0.size hgr.size, fun k hk => ?_⟩
        refine (hgr.block k (Nat.lt_of_lt_of_le hk hw0.size) fun e => ?_).trans (hw0.block k hk)
        have := World.ownsRow.lt hown k e.symm
        omega
      obtain ⟨y, rfl⟩ := hgw.later
      exact h A' c'' y hown'
end
/-- How many numbers the first k rows have; what they are, one behind the other. -/
def szK (R : List Row) : Nat → Nat
  | 0 => 0
  | k + 1 => szK R k + (gr R k).n
def ccK (R : List Row) : Nat → List Int
  | 0 => []
  | k + 1 => ccK R k ++ (gr R k).xs
theorem szK_le {R : List Row} (h : ∀ k, k < R.length → (gr R k).n ≤ 60) (k : Nat) (hk : k ≤ R.length) : szK R k ≤ k * 60 := by
  induction k with
  | zero => simp [szK]
  | succ k ih => have := h k (by omega); have := ih (by omega); show szK R k + _ ≤ _; omega
set_option maxRecDepth 20000 in
set_option maxHeartbeats 4000000 in
theorem concatI (B : Option Addr) (m d : Nat) (R : List Row) (w : World) (hr : Rd w B 1 m (R.map rowVal)) (hm : m ≤ 1000) (hR : ∀ k, k < m → Rd w (gr R k).A 1 (gr R k).n ((gr R k).xs.map (.int .i64)) ∧ (gr R k).n ≤ 60 ∧ ((gr R k).A = none → (gr R k).n = 0 ∧ (gr R k).c = 0)) :
    Calls Try.prog 95 #[.slice B m d] w fun e w' => ∃ A c, e = .returned (.slice A (ccK R m).length c) ∧ Own w' w.heap.size 3 1 A (ccK R m).length c ((ccK R m).map (.int .i64)) ∧ Grows w w' := by
  have HM := hide (show R.length = m by simpa using hr.len)
  have HSz := hide (fun k (hk : k ≤ m) => szK_le (R := R) (fun k hk => (hR k (by rw [← HM.out]; exact hk)).2.1) k (by rw [HM.out]; exact hk))
  have HB := hide hr
  have HR := hide hR
  clear hr hR
  go_enter Try.func95, Try.ntmps95
  go_wp2_with fail
  go_loopw [11, 3] (fun i u wr => ∃ k : Nat, k ≤ m ∧ i = .int .i64 (k : Int) ∧ u = .int .i64 (szK R k : Int) ∧ w = wr) (fun i _ _ => m - (intOf i).toNat)
  case atStart => exact ⟨0, by omega, by go_num, rfl, rfl⟩
  case round =>
    obtain ⟨k, hk, rfl, rfl, rfl⟩ := hrel
    by_cases hend : m ≤ k
    · have hkm : k = m := by omega
      subst hkm
      have hs := HSz.out k (Nat.le_refl _)
      have HG := hide (fun W => growI (szK R k) W (by omega))
      go_wp2_with (go_at_call 131; refine (HG.out _).mono ?_; rintro e w' ⟨A1, c1, rfl, hown, hg⟩; obtain ⟨x, rfl⟩ := hg.later; have HO := hide hown; clear hg hown)
      go_loopw [27, 6] (fun i u wr => ∃ q : Nat, q ≤ k ∧ i = .int .i64 (q : Int) ∧ ∃ y : Later w, wr = y.now ∧ ∃ A2 c2 s2, u = .slice A2 s2 c2 ∧ Hid (s2 = (ccK R q).length) ∧ Hid (s2 = szK R q) ∧ Own y.now w.heap.size 3 1 A2 s2 c2 ((ccK R q).map (.int .i64))) (fun i _ _ => k - (intOf i).toNat)
      case atStart => exact ⟨0, by omega, by go_num, x, rfl, A1, c1, 0, rfl, rfl, rfl, HO.out⟩
      case round =>
        obtain ⟨q, hq, rfl, y, rfl, A2, c2, s2, rfl, HS2, HS3, hown2⟩ := hrel
        have HO2 := hide hown2
        clear hown2
        by_cases hend2 : k ≤ q
        · have hqk : q = k := by omega
          subst hqk
          go_wp2
          go_ret
          exact ⟨A2, c2, by rw [← HS2.out]; rfl, by rw [← HS2.out]; exact HO2.out, (by repeat (first | exact Grows.refl _ | refine Grows.now ?_ _ | refine Grows.new ?_ _ | refine Grows.drewN ?_ _ | refine Grows.drew ?_ | assumption | (refine Grows.set ?_ (by first | omega | (simp; done) | (simp; omega)) _)))⟩
        · obtain ⟨b, off, rfl, hc⟩ := HB.out.rows (by omega)
          have k1 := Holds.mk (hc q (by omega))
          have hs2 : s2 ≤ 1000000 := by have := HS3.out; have := HSz.out q (by omega); omega
          obtain ⟨r1, r2, r3⟩ := HR.out q (by omega)
          have HR1 := hide r1
          have HR3 := hide r3
          have HN : Hid (ccK R (q + 1) = ccK R q ++ (gr R q).xs) := rfl
          have HNs : Hid (szK R (q + 1) = szK R q + (gr R q).n) := rfl
          have HXl := hide (show (gr R q).xs.length = (gr R q).n by simpa using r1.len)
          clear hc r1 r3
          generalize gr R q = row at *
          obtain ⟨RA, rn, rc, rx⟩ := row
          dsimp only at *
          go_wp2_with (at_builtin; refine wp_appRow elemInt rfl _ _ rfl _ (by repeat (first | exact Grows.refl _ | refine Grows.now ?_ _ | refine Grows.new ?_ _ | refine Grows.drewN ?_ _ | refine Grows.drew ?_ | assumption | (refine Grows.set ?_ (by first | omega | (simp; done) | (simp; omega)) _))) s2 c2 A2 _ rfl HO2.out RA rn rc _ rfl (HR1.out.grows (by repeat (first | exact Grows.refl _ | refine Grows.now ?_ _ | refine Grows.new ?_ _ | refine Grows.drewN ?_ _ | refine Grows.drew ?_ | assumption | (refine Grows.set ?_ (by first | omega | (simp; done) | (simp; omega)) _)))) HR3.out (by intro u hu; obtain ⟨z, _, rfl⟩ := List.mem_map.1 hu; rfl) (by omega) ?_; intro A3 c3 y3 hown3; have HO3 := hide hown3; clear hown3)
          refine ⟨⟨q + 1, by omega, by go_num, y3, rfl, A3, c3, s2 + rn, rfl, ?_, ?_, ?_⟩, by simp [intOf]; omega⟩
          · rw [HN.out]; show s2 + rn = _; rw [List.length_append, HS2.out, HXl.out]
          · rw [HNs.out]; show s2 + rn = _; rw [HS3.out]
          · rw [HN.out, List.map_append]; exact HO3.out
    · obtain ⟨b, off, rfl, hc⟩ := HB.out.rows (by omega)
      have c1 := Holds.mk (hc k (by omega))
      have hs := HSz.out k (by omega)
      have hn := (HR.out k (by omega)).2.1
      have HN : Hid (szK R (k + 1) = szK R k + (gr R k).n) := rfl
      clear hc
      generalize szK R k = sk at *
      generalize (gr R k).n = nk at *
      go_wp2
      all_goals first | (exfalso; omega) | skip
      exact ⟨⟨k + 1, by omega, by go_num, by rw [HN.out]; simp, trivial⟩, by simp [intOf]; omega⟩
end Go.Proofs.Ytpnncadglhlclaa
