/- Contracts: rows of numbers that are the same; the rows of routes. -/
import Derived.Deep.Cut
import Derived.BigQuiet
import Derived.WalkMore
import Derived.Deep.DeepCutAuto
import Derived.Test.YtgplpgldhoelcaaGreatQPenWays00
import Derived.Test.YtgplpgldhoelcaaGreatQPenWays01
import Derived.Test.YtgplpgldhoelcaaGreatQPenWays02
import Derived.Test.YtgplpgldhoelcaaGreatQPenWays05
import Derived.Test.YtgplpgldhoelcaaGreatQPenWays06
import Derived.Test.YtgplpgldhoelcaaGreatQPenWays15
namespace Go.Proofs.YtgplpgldhoelcaaGreat
open Go Go.RowKit
attribute [local go_sem] Oper.semAt_some
theorem take_giS {l : List Int} {i : Nat} (h : i < l.length) : l.take (i + 1) = l.take i ++ [gi l i] := by
  rw [List.take_succ_eq_append_getElem h]
  simp [gi, h]
theorem gi_ne {l l' : List Int} {i : Nat} (h : gi l i ≠ gi l' i) : l ≠ l' := fun e => h (by rw [e])
set_option maxRecDepth 20000 in
set_option maxHeartbeats 2000000 in
theorem r8LessZ (A : Option Addr) (n c : Nat) (l : List Int) (B : Option Addr) (m d : Nat) (l' : List Int) (w : World) (h : Rd w A 1 n (l.map (.int .i64))) (hn : n ≤ 1000000) (h' : Rd w B 1 m (l'.map (.int .i64))) (hm : m ≤ 1000000) :
    Calls Tryz.prog 75 #[.slice A n c, .slice B m d] w fun e w' => ∃ z : Int, e = .returned (.int .i64 z) ∧ (z = 0 ↔ l = l') ∧ Grows w w' := by
  have HL := hide (show l.length = n by simpa using h.len)
  have HM := hide (show l'.length = m by simpa using h'.len)
  have HR := hide h
  have HR2 := hide h'
  clear h h'
  go_enter Tryz.func75, Tryz.ntmps75
  go_wp2_with fail
  go_loopw [5] (fun i wr => ∃ k : Nat, k ≤ n ∧ k ≤ m ∧ i = .int .i64 (k : Int) ∧ Hid (l.take k = l'.take k) ∧ (∃ x : Later w, wr = x.now)) (fun i _ => n - (Go.RowKit.intOf i).toNat)
  case atStart => exact ⟨0, by omega, by omega, by go_num, rfl, ⟨⟨w, Grows.refl w⟩, rfl⟩⟩
  case round =>
    obtain ⟨q, hq, hqm, rfl, HT, ⟨x, rfl⟩⟩ := hrel
    by_cases hend : q < n
    · by_cases hend2 : q < m
      · obtain ⟨b, off, rfl, hc⟩ := HR.out.intsH (by omega)
        have hc1 := hc q hend
        obtain ⟨b2, off2, rfl, hc2⟩ := HR2.out.intsH (by omega)
        have hc3 := hc2 q hend2
        clear hc hc2
        have HS := hide (take_giS (l := l) (i := q) (by rw [HL.out]; exact hend))
        have HS2 := hide (take_giS (l := l') (i := q) (by rw [HM.out]; exact hend2))
        have HNE := hide (show gi l q ≠ gi l' q → l ≠ l' from gi_ne)
        generalize gi l q = z at *
        generalize gi l' q = z' at *
        rcases Int.lt_trichotomy z z' with hz | hz | hz
        · have HV := hide (HNE.out (by omega))
          go_wp2_with fail
          ((first | refine wp_region_gen2 (by kernel_rfl) (by kernel_rfl) ?_ | refine wp_region_gen (by kernel_rfl) (by kernel_rfl) ?_); (repeat' ((first | refine gLex_val0 rfl (by kernel_rfl) (fun K hK => ?_) | refine gLex_undef rfl rfl rfl (by kernel_rfl) (fun K hK => ?_) | (refine gLex_ask rfl rfl rfl ?_; first | (apply gAsk_yes; kernel_rfl; intro K hK) | ((first | apply gAsk_no1 | apply gAsk_no2); kernel_rfl; intro K hK) | (apply gAsk_part; kernel_rfl; all_goals (intro h K hK; (try simp only [Bool.not_true] at h); (try simp only [Bool.not_false] at h); (try simp only [decide_eq_true_eq] at h); (try simp only [decide_eq_false_iff_not] at h); try (exfalso; first | contradiction | omega))))) <;> (go_simp; (try (simp only [↓IntWalk.iteOmega]; try go_simp)); (try simp (disch := omega) only [IntWalk.i64_in]); (try simp (disch := omega) only [IntWalk.u64_in]); refine hK _ ?_; clear hK K))); all_goals ((apply gLex_end); intro y))
          go_wp2_with fail
          go_ret
          exact ⟨-1, rfl, ⟨fun e => absurd e (by decide), fun e => absurd e HV.out⟩, GG⟩
        · subst hz
          have hz1 : ¬ z < z := by omega
          go_wp2_with fail
          ((first | refine wp_region_gen2 (by kernel_rfl) (by kernel_rfl) ?_ | refine wp_region_gen (by kernel_rfl) (by kernel_rfl) ?_); (repeat' ((first | refine gLex_val0 rfl (by kernel_rfl) (fun K hK => ?_) | refine gLex_undef rfl rfl rfl (by kernel_rfl) (fun K hK => ?_) | (refine gLex_ask rfl rfl rfl ?_; first | (apply gAsk_yes; kernel_rfl; intro K hK) | ((first | apply gAsk_no1 | apply gAsk_no2); kernel_rfl; intro K hK) | (apply gAsk_part; kernel_rfl; all_goals (intro h K hK; (try simp only [Bool.not_true] at h); (try simp only [Bool.not_false] at h); (try simp only [decide_eq_true_eq] at h); (try simp only [decide_eq_false_iff_not] at h); try (exfalso; first | contradiction | omega))))) <;> (go_simp; (try (simp only [↓IntWalk.iteOmega]; try go_simp)); (try simp (disch := omega) only [IntWalk.i64_in]); (try simp (disch := omega) only [IntWalk.u64_in]); refine hK _ ?_; clear hK K))); all_goals ((apply gLex_end); intro y))
          go_wp2_with fail
          ((first | refine wp_region_gen2 (by kernel_rfl) (by kernel_rfl) ?_ | refine wp_region_gen (by kernel_rfl) (by kernel_rfl) ?_); (repeat' ((first | refine gLex_val0 rfl (by kernel_rfl) (fun K hK => ?_) | refine gLex_undef rfl rfl rfl (by kernel_rfl) (fun K hK => ?_) | (refine gLex_ask rfl rfl rfl ?_; first | (apply gAsk_yes; kernel_rfl; intro K hK) | ((first | apply gAsk_no1 | apply gAsk_no2); kernel_rfl; intro K hK) | (apply gAsk_part; kernel_rfl; all_goals (intro h K hK; (try simp only [Bool.not_true] at h); (try simp only [Bool.not_false] at h); (try simp only [decide_eq_true_eq] at h); (try simp only [decide_eq_false_iff_not] at h); try (exfalso; first | contradiction | omega))))) <;> (go_simp; (try (simp only [↓IntWalk.iteOmega]; try go_simp)); (try simp (disch := omega) only [IntWalk.i64_in]); (try simp (disch := omega) only [IntWalk.u64_in]); refine hK _ ?_; clear hK K))); all_goals ((apply gLex_end); intro y2))
          go_wp2_with fail
          exact ⟨⟨q + 1, by omega, by omega, by go_num, by rw [HS.out, HS2.out, HT.out]; exact rfl, ⟨⟨_, GG⟩, rfl⟩⟩, by simp [Go.RowKit.intOf]; omega⟩
        · have hz1 : ¬ z < z' := by omega
          have HV := hide (HNE.out (by omega))
          go_wp2_with fail
          ((first | refine wp_region_gen2 (by kernel_rfl) (by kernel_rfl) ?_ | refine wp_region_gen (by kernel_rfl) (by kernel_rfl) ?_); (repeat' ((first | refine gLex_val0 rfl (by kernel_rfl) (fun K hK => ?_) | refine gLex_undef rfl rfl rfl (by kernel_rfl) (fun K hK => ?_) | (refine gLex_ask rfl rfl rfl ?_; first | (apply gAsk_yes; kernel_rfl; intro K hK) | ((first | apply gAsk_no1 | apply gAsk_no2); kernel_rfl; intro K hK) | (apply gAsk_part; kernel_rfl; all_goals (intro h K hK; (try simp only [Bool.not_true] at h); (try simp only [Bool.not_false] at h); (try simp only [decide_eq_true_eq] at h); (try simp only [decide_eq_false_iff_not] at h); try (exfalso; first | contradiction | omega))))) <;> (go_simp; (try (simp only [↓IntWalk.iteOmega]; try go_simp)); (try simp (disch := omega) only [IntWalk.i64_in]); (try simp (disch := omega) only [IntWalk.u64_in]); refine hK _ ?_; clear hK K))); all_goals ((apply gLex_end); intro y))
          go_wp2_with fail
          ((first | refine wp_region_gen2 (by kernel_rfl) (by kernel_rfl) ?_ | refine wp_region_gen (by kernel_rfl) (by kernel_rfl) ?_); (repeat' ((first | refine gLex_val0 rfl (by kernel_rfl) (fun K hK => ?_) | refine gLex_undef rfl rfl rfl (by kernel_rfl) (fun K hK => ?_) | (refine gLex_ask rfl rfl rfl ?_; first | (apply gAsk_yes; kernel_rfl; intro K hK) | ((first | apply gAsk_no1 | apply gAsk_no2); kernel_rfl; intro K hK) | (apply gAsk_part; kernel_rfl; all_goals (intro h K hK; (try simp only [Bool.not_true] at h); (try simp only [Bool.not_false] at h); (try simp only [decide_eq_true_eq] at h); (try simp only [decide_eq_false_iff_not] at h); try (exfalso; first | contradiction | omega))))) <;> (go_simp; (try (simp only [↓IntWalk.iteOmega]; try go_simp)); (try simp (disch := omega) only [IntWalk.i64_in]); (try simp (disch := omega) only [IntWalk.u64_in]); refine hK _ ?_; clear hK K))); all_goals ((apply gLex_end); intro y2))
          go_wp2_with fail
          go_ret
          exact ⟨1, rfl, ⟨fun e => absurd e (by decide), fun e => absurd e HV.out⟩, GG⟩
      · obtain rfl : q = m := by omega
        have HV := hide (show l ≠ l' from fun e => by have h1 := HL.out; have h2 := HM.out; rw [e] at h1; omega)
        go_wp2_with fail
        go_ret
        exact ⟨1, rfl, ⟨fun e => absurd e (by decide), fun e => absurd e HV.out⟩, GG⟩
    · obtain rfl : q = n := by omega
      by_cases hend2 : q < m
      · have HV := hide (show l ≠ l' from fun e => by have h1 := HL.out; have h2 := HM.out; rw [e] at h1; omega)
        go_wp2_with fail
        go_ret
        exact ⟨-1, rfl, ⟨fun e => absurd e (by decide), fun e => absurd e HV.out⟩, GG⟩
      · obtain rfl : q = m := by omega
        have HV := hide (show l = l' from by
          have h1 := HT.out
          rwa [List.take_of_length_le (by rw [HL.out]; omega), List.take_of_length_le (by rw [HM.out]; omega)] at h1)
        go_wp2_with fail
        go_ret
        exact ⟨0, rfl, ⟨fun _ => HV.out, fun _ => rfl⟩, GG⟩
set_option maxRecDepth 20000 in
set_option maxHeartbeats 4000000 in
theorem slEqZ (A : Option Addr) (n c : Nat) (l : List Int) (B : Option Addr) (m d : Nat) (l' : List Int) (w : World) (h : Rd w A 1 n (l.map (.int .i64))) (hn : n ≤ 1000000) (h' : Rd w B 1 m (l'.map (.int .i64))) (hm : m ≤ 1000000) :
    Calls Tryz.prog 99 #[.slice A n c, .slice B m d] w fun e w' => e = .returned (.bool (decide (l = l'))) ∧ Grows w w' := by
  have HL := hide (show l.length = n by simpa using h.len)
  have HM := hide (show l'.length = m by simpa using h'.len)
  have HR := hide h
  have HR2 := hide h'
  clear h h'
  by_cases hnm : n = m
  · subst hnm
    go_enter Tryz.func99, Tryz.ntmps99
    go_wp2_with fail
    go_loopw [13, 5] (fun i _ wr => ∃ k : Nat, k ≤ n ∧ i = .int .i64 (k : Int) ∧ Hid (l.take k = l'.take k) ∧ (∃ y : Later w, wr = y.now)) (fun i _ _ => n - (Go.RowKit.intOf i).toNat)
    case atStart => exact ⟨0, by omega, by go_num, rfl, ⟨⟨w, Grows.refl w⟩, rfl⟩⟩
    case round =>
      obtain ⟨k, hk, rfl, HT, ⟨y, rfl⟩⟩ := hrel
      by_cases hend : n ≤ k
      · have HV : Hid (l = l') := by
          have h1 := HT.out
          rw [List.take_of_length_le (by rw [HL.out]; omega), List.take_of_length_le (by rw [HM.out]; omega)] at h1
          exact h1
        go_wp2
        go_ret
        exact ⟨ret_bool (decide_eq_true HV.out).symm, GG⟩
      · obtain ⟨b, off, rfl, hc⟩ := HR.out.intsH (by omega)
        have c1 := hc k (by omega)
        obtain ⟨b2, off2, rfl, hc2⟩ := HR2.out.intsH (by omega)
        have c2 := hc2 k (by omega)
        clear hc hc2
        have HS := hide (take_giS (l := l) (i := k) (by rw [HL.out]; omega))
        have HS2 := hide (take_giS (l := l') (i := k) (by rw [HM.out]; omega))
        by_cases he : gi l k = gi l' k
        · rw [← he] at c2 HS2
          clear he
          generalize gi l k = u at *
          go_wp2_with fail
          ((first | refine wp_region_gen (by kernel_rfl) (by kernel_rfl) ?_); (repeat' ((first | refine gLex_val0 rfl (by kernel_rfl) (fun K hK => ?_) | refine gLex_undef rfl rfl rfl (by kernel_rfl) (fun K hK => ?_) | (refine gLex_ask rfl rfl rfl ?_; first | (apply gAsk_yes; kernel_rfl; intro K hK) | ((first | apply gAsk_no1 | apply gAsk_no2); kernel_rfl; intro K hK) | (apply gAsk_part; kernel_rfl; all_goals (intro h K hK; (try simp only [Bool.not_true] at h); (try simp only [Bool.not_false] at h); (try simp only [decide_eq_true_eq] at h); (try simp only [decide_eq_false_iff_not] at h); try (exfalso; first | contradiction | omega))))) <;> (go_simp; (try (simp only [↓IntWalk.iteOmega]; try go_simp)); (try simp (disch := omega) only [IntWalk.i64_in]); (try simp (disch := omega) only [IntWalk.u64_in]); refine hK _ ?_; clear hK K))); all_goals ((apply gLex_end); intro x))
          go_wp2
          refine ⟨⟨k + 1, by omega, by go_num, by rw [HS.out, HS2.out, HT.out]; exact rfl, Grows.later GG⟩, by simp [Go.RowKit.intOf]; omega⟩
        · have HV : Hid (¬ l = l') := fun e => he (by rw [e])
          have hd : (gi l k == gi l' k) = false := beq_eq_false_iff_ne.2 he
          have hd2 : (gi l k != gi l' k) = true := by rw [bne, hd]; rfl
          clear he HS HS2
          generalize gi l k = u at *
          generalize gi l' k = v at *
          go_wp2_with fail
          ((first | refine wp_region_gen (by kernel_rfl) (by kernel_rfl) ?_); (repeat' ((first | refine gLex_val0 rfl (by kernel_rfl) (fun K hK => ?_) | refine gLex_undef rfl rfl rfl (by kernel_rfl) (fun K hK => ?_) | (refine gLex_ask rfl rfl rfl ?_; first | (apply gAsk_yes; kernel_rfl; intro K hK) | ((first | apply gAsk_no1 | apply gAsk_no2); kernel_rfl; intro K hK) | (apply gAsk_part; kernel_rfl; all_goals (intro h K hK; (try simp only [Bool.not_true] at h); (try simp only [Bool.not_false] at h); (try simp only [decide_eq_true_eq] at h); (try simp only [decide_eq_false_iff_not] at h); try (exfalso; first | contradiction | omega))))) <;> (go_simp; (try (simp only [↓IntWalk.iteOmega]; try go_simp)); (try simp (disch := omega) only [IntWalk.i64_in]); (try simp (disch := omega) only [IntWalk.u64_in]); refine hK _ ?_; clear hK K))); all_goals ((apply gLex_end); intro x))
          go_wp2
          go_ret
          exact ⟨ret_bool (decide_eq_false HV.out).symm, GG⟩
  · have HV : Hid (¬ l = l') := fun e => hnm (by rw [← HL.out, ← HM.out, e])
    go_enter Tryz.func99, Tryz.ntmps99
    go_wp2_with fail
    go_ret
    exact ⟨ret_bool (decide_eq_false HV.out).symm, GG⟩
theorem elemRows : Elem 149 22 1 := by
  have h : (Tryz.prog.info? 22).map (fun i => (i.zero, i.size, i.bytes)) = some (some (.slice none 0 0), 1, 24) := by kernel_rfl
  obtain ⟨i, hi, hz, hs, hb⟩ := info_parts h
  exact ⟨Tryz.underlying149, ⟨i, _, 24, hi, hz, hs, hb, rfl, by omega⟩, by omega⟩
structure HR where
  A : Option Addr
  n : Nat
  c : Nat
  xs : List Int
  w : Int
def hrC (r : HR) : List Value := [.slice r.A r.n r.c, .int .u64 r.w]
def hrRow (r : HR) : Row := ⟨r.A, r.n, r.c, r.xs⟩
def gh (H : List HR) (k : Nat) : HR := H.getD k ⟨none, 0, 0, [], 0⟩
structure HadAt (w : World) (A : Option Addr) (n : Nat) (H : List HR) : Prop where
  rd : Rd w A 2 n (H.flatMap hrC)
  rows : ∀ r ∈ H, Rd w r.A 1 r.n (r.xs.map (.int .i64)) ∧ r.n ≤ r.c
theorem HadAt.len {w : World} {A : Option Addr} {n : Nat} {H : List HR} (h : HadAt w A n H) : H.length = n := by
  have := h.rd.1
  rw [flat_len hrC 2 (fun _ => rfl)] at this
  omega
theorem HadAt.grows {w w' : World} {A : Option Addr} {n : Nat} {H : List HR} (h : HadAt w A n H) (hg : Grows w w') : HadAt w' A n H := ⟨h.rd.grows hg, fun r hr => ⟨(h.rows r hr).1.grows hg, (h.rows r hr).2⟩⟩
theorem gh_mem {H : List HR} {k : Nat} (h : k < H.length) : gh H k ∈ H := by
  unfold gh
  rw [List.getD_eq_getElem?_getD, List.getElem?_eq_getElem h, Option.getD_some]
  exact List.getElem_mem _
theorem HadAt.at_ {w : World} {A : Option Addr} {n : Nat} {H : List HR} (h : HadAt w A n H) (hn : 0 < n) :
    ∃ b off, A = some ⟨b, off, none⟩ ∧ ∀ k, k < n → Holds w ⟨b, off + k * 2, none⟩ (.slice (gh H k).A (gh H k).n (gh H k).c) ∧ Holds w ⟨b, off + k * 2 + 1, none⟩ (.int .u64 (gh H k).w) := by
  have hl := h.len
  obtain ⟨b, off, e, hc⟩ := h.rd.2 hn (by omega)
  refine ⟨b, off, e, fun k hk => ⟨⟨?_⟩, ⟨?_⟩⟩⟩
  · exact hc (k * 2 + 0) _ (by rw [flat_get hrC 2 (fun _ => rfl) ⟨none, 0, 0, [], 0⟩ H k 0 (by omega) (by omega)]; rfl)
  · have := hc (k * 2 + 1) _ (by rw [flat_get hrC 2 (fun _ => rfl) ⟨none, 0, 0, [], 0⟩ H k 1 (by omega) (by omega)]; rfl)
    rwa [← Nat.add_assoc] at this
def hRows (H : List HR) : List Row := H.map hrRow
theorem hRows_snoc {H : List HR} {k : Nat} (h : k < H.length) : (hRows (H.take (k + 1))).map rowVal = (hRows (H.take k)).map rowVal ++ [.slice (gh H k).A (gh H k).n (gh H k).c] := by
  unfold hRows
  rw [List.take_succ_eq_append_getElem h, List.map_append, List.map_append]
  congr 1
  simp [hrRow, rowVal, gh, h]
theorem HadAt.ok {w : World} {A : Option Addr} {n : Nat} {H : List HR} (h : HadAt w A n H) : rowsOk w (hRows H) := fun k hk => by
  have hk : k < H.length := by simpa [hRows] using hk
  have e : gr (hRows H) k = hrRow (gh H k) := by simp [gr, hRows, gh, hk]
  rw [e]
  exact h.rows _ (gh_mem hk)
def GiveRws (w : World) (H : List HR) (e : Ending) (w' : World) : Prop := ∃ A' c', e = .returned (.slice A' H.length c') ∧ Rd w' A' 1 H.length ((hRows H).map rowVal) ∧ Grows w w'
set_option maxRecDepth 20000 in
set_option maxHeartbeats 4000000 in
theorem penEdges (A : Option Addr) (n c : Nat) (H : List HR) (w : World) (h : HadAt w A n H) (hn : n ≤ 1000000) :
    Calls Tryz.prog 97 #[.slice A n c] w (GiveRws w H) := by
  unfold GiveRws
  have hl := h.len
  rw [hl]
  have HR := hide h
  have HL := hide hl
  clear h hl
  go_enter Tryz.func97, Tryz.ntmps97
  go_wp2_with fail
  go_loopw [2, 7] (fun out tk wr => ∃ (i : Nat) (A8 : Option Addr) (c8 : Nat), i ≤ n ∧ out = .slice A8 i c8 ∧ tk = .int .i64 (i : Int) ∧ ∃ y : Later w, wr = y.now ∧ Hid (Own y.now w.heap.size 22 1 A8 i c8 ((hRows (H.take i)).map rowVal))) (fun _ tk _ => n - (Go.RowKit.intOf tk).toNat)
  case atStart => exact ⟨0, none, 0, by omega, rfl, by go_num, ⟨w, Grows.refl _⟩, rfl, hide (Own.nil _ _ _ _)⟩
  case round =>
    obtain ⟨i, A8, c8, hi, rfl, rfl, y, rfl, HO⟩ := hrel
    by_cases hlt : i < n
    · obtain ⟨b, off, rfl, hcW⟩ := HR.out.at_ (by omega)
      obtain ⟨k1, k2⟩ := hcW i hlt
      clear hcW
      have HSN := hide (hRows_snoc (H := H) (k := i) (by have := HL.out; omega))
      generalize gh H i = r at *
      obtain ⟨rA, rn, rc, rx, rw_⟩ := r
      simp only at k1 k2
      go_wp2_with (at_builtin; refine wp_app1 elemRows rfl _ _ rfl w GG i c8 A8 _ rfl (HO.out.grows (show Grows y.now _ from GG)) _ _ (.slice rA rn rc) rfl inferInstance rfl (by omega) ?_; intro A5 c5 y5 hown5; have HO5 := hide hown5; clear hown5)
      go_roundw
      case measure => simp [Go.RowKit.intOf]; omega
      case rel => exact ⟨i + 1, A5, c5, by omega, rfl, by go_num, y5, rfl, hide (by rw [HSN.out]; exact HO5.out)⟩
    · obtain rfl : i = n := by omega
      go_wp2_with fail
      go_ret
      exact ⟨A8, c8, rfl, by
        have h5 := HO.out.rd
        rwa [List.take_of_length_le (by have := HL.out; omega)] at h5, y.grows⟩
set_option maxRecDepth 20000 in
set_option maxHeartbeats 4000000 in
theorem r29Edges (A : Option Addr) (n c : Nat) (H : List HR) (w : World) (h : HadAt w A n H) (hn : n ≤ 1000000) :
    Calls Tryz.prog 111 #[.slice A n c] w (GiveRws w H) := by
  unfold GiveRws
  have hl := h.len
  rw [hl]
  have HR := hide h
  have HL := hide hl
  clear h hl
  go_enter Tryz.func111, Tryz.ntmps111
  go_wp2_with fail
  go_loopw [3, 4] (fun out tk wr => ∃ (i : Nat) (A8 : Option Addr) (c8 : Nat), i ≤ n ∧ out = .slice A8 i c8 ∧ tk = .int .i64 (i : Int) ∧ ∃ y : Later w, wr = y.now ∧ Hid (Own y.now w.heap.size 22 1 A8 i c8 ((hRows (H.take i)).map rowVal))) (fun _ tk _ => n - (Go.RowKit.intOf tk).toNat)
  case atStart => exact ⟨0, none, 0, by omega, rfl, by go_num, ⟨w, Grows.refl _⟩, rfl, hide (Own.nil _ _ _ _)⟩
  case round =>
    obtain ⟨i, A8, c8, hi, rfl, rfl, y, rfl, HO⟩ := hrel
    by_cases hlt : i < n
    · obtain ⟨b, off, rfl, hcW⟩ := HR.out.at_ (by omega)
      obtain ⟨k1, k2⟩ := hcW i hlt
      clear hcW
      have HSN := hide (hRows_snoc (H := H) (k := i) (by have := HL.out; omega))
      generalize gh H i = r at *
      obtain ⟨rA, rn, rc, rx, rw_⟩ := r
      simp only at k1 k2
      go_wp2_with (at_builtin; refine wp_app1 elemRows rfl _ _ rfl w GG i c8 A8 _ rfl (HO.out.grows (show Grows y.now _ from GG)) _ _ (.slice rA rn rc) rfl inferInstance rfl (by omega) ?_; intro A5 c5 y5 hown5; have HO5 := hide hown5; clear hown5)
      go_roundw
      case measure => simp [Go.RowKit.intOf]; omega
      case rel => exact ⟨i + 1, A5, c5, by omega, rfl, by go_num, y5, rfl, hide (by rw [HSN.out]; exact HO5.out)⟩
    · obtain rfl : i = n := by omega
      go_wp2_with fail
      go_ret
      exact ⟨A8, c8, rfl, by
        have h5 := HO.out.rd
        rwa [List.take_of_length_le (by have := HL.out; omega)] at h5, y.grows⟩
def hadB (H : List HR) (l : List Int) : Bool := decide (∃ k, k < H.length ∧ (gh H k).xs = l)
set_option maxRecDepth 20000 in
set_option maxHeartbeats 4000000 in
theorem r29Had (A : Option Addr) (n c : Nat) (H : List HR) (B : Option Addr) (m d : Nat) (l : List Int) (w : World) (h : HadAt w A n H) (hn : n ≤ 1000000) (hs : ∀ r ∈ H, r.n ≤ 1000000) (h' : Rd w B 1 m (l.map (.int .i64))) (hm : m ≤ 1000000) :
    Calls Tryz.prog 48 #[.slice A n c, .slice B m d] w fun e w' => e = .returned (.bool (hadB H l)) ∧ Grows w w' := by
  have HL := hide h.len
  have HR := hide h
  have C1 := hide (fun (X : World) (g : Grows w X) (k : Nat) (hk : k < n) => r8LessZ (gh H k).A (gh H k).n (gh H k).c (gh H k).xs B m d l X ((h.rows _ (gh_mem (by rw [h.len]; exact hk))).1.grows g) (hs _ (gh_mem (by rw [h.len]; exact hk))) (h'.grows g) hm)
  clear h h' hs
  go_enter Tryz.func48, Tryz.ntmps48
  go_wp2_with fail
  go_loopw [5] (fun tk wr => ∃ i : Nat, i ≤ n ∧ tk = .int .i64 (i : Int) ∧ (∃ y : Later w, wr = y.now) ∧ Hid (∀ k, k < i → (gh H k).xs ≠ l)) (fun tk _ => n - (Go.RowKit.intOf tk).toNat)
  case atStart => exact ⟨0, by omega, by go_num, ⟨⟨w, Grows.refl w⟩, rfl⟩, hide (fun k hk => by omega)⟩
  case round =>
    obtain ⟨i, hi, rfl, ⟨y, rfl⟩, HA⟩ := hrel
    by_cases hlt : i < n
    · obtain ⟨b, off, rfl, hcW⟩ := HR.out.at_ (by omega)
      obtain ⟨k1, k2⟩ := hcW i hlt
      clear hcW
      have CI := hide (fun (X : World) (g : Grows w X) => C1.out X g i hlt)
      have HSAME := hide (show (gh H i).xs = l → hadB H l = true from fun e => decide_eq_true ⟨i, by rw [HL.out]; exact hlt, e⟩)
      have HNXT := hide (show (gh H i).xs ≠ l → ∀ k, k < i + 1 → (gh H k).xs ≠ l from fun e k hk => by
        by_cases hki : k = i
        · rw [hki]; exact e
        · exact HA.out k (by omega))
      generalize gh H i = r at *
      obtain ⟨rA, rn, rc, rx, rw_⟩ := r
      simp only at k1 k2 CI HSAME HNXT
      go_wp2_with fail
      refine (CI.out _ GG).mono ?_; rintro e w' ⟨z, rfl, hz, hg⟩; obtain ⟨x1, rfl⟩ := hg.later; clear hg
      by_cases h0 : z = 0
      · have HB := hide (HSAME.out (hz.1 h0))
        have hzb : (z == 0) = true := by rw [h0]; rfl
        clear hz h0
        go_wp2_with fail
        go_ret
        exact ⟨ret_bool HB.out.symm, GG⟩
      · have HN := hide (HNXT.out (fun e => h0 (hz.2 e)))
        have hzb : (z == 0) = false := beq_eq_false_iff_ne.2 h0
        clear hz h0
        go_wp2_with fail
        go_roundw
        case measure => simp [Go.RowKit.intOf]; omega
        case rel => exact ⟨i + 1, by omega, by go_num, ⟨⟨_, GG⟩, rfl⟩, HN⟩
    · obtain rfl : i = n := by omega
      have HB := hide (show hadB H l = false from decide_eq_false (fun ⟨k, hk, e⟩ => HA.out k (by have := HL.out; omega) e))
      go_wp2_with fail
      go_ret
      exact ⟨ret_bool HB.out.symm, GG⟩
end Go.Proofs.YtgplpgldhoelcaaGreat

namespace Go.Proofs.YtgplpgldhoelcaaGreat
open Go Go.RowKit
attribute [local go_sem] Oper.semAt_some
structure PO where
  k : Int
  r : Int
  f1 : Int
  f2 : Int
  a1 : Int
  a2 : Int
  e1 : Int
  e2 : Int
  g1 : Int
  g2 : Int
def poV (o : PO) : Value := .agg #[.int .i64 o.k, .int .i64 o.r, .int .u64 o.f1, .int .u64 o.f2, .int .u64 o.a1, .int .u64 o.a2, .int .u64 o.e1, .int .u64 o.e2, .int .u64 o.g1, .int .u64 o.g2]
def inB (n l m : Int) : Bool := decide (l ≤ n ∧ n ≤ m)
def poB (o : PO) : Bool := inB o.k 1 1024 && (inB o.r 0 100 && (rrB o.f1 o.f2 && (rrB o.a1 o.a2 && (rrB o.e1 o.e2 && (rrB o.g1 o.g2 && decide (o.f2 ≤ o.f1))))))
set_option maxHeartbeats 400000 in
theorem penRight1 (n l m : Int) (w : World) : Calls Tryz.prog 90 #[.int .i64 n, .int .i64 l, .int .i64 m] w fun e w' => e = .returned (.bool (inB n l m)) ∧ Grows w w' := by
  go_enter Tryz.func90, Tryz.ntmps90
  go_wp2
  all_goals go_ret
  all_goals exact ⟨ret_bool (by unfold inB; simp; try omega), GG⟩
set_option maxHeartbeats 400000 in
theorem penRight2 (a b : Int) (w : World) : Calls Tryz.prog 91 #[.agg #[.int .u64 a, .int .u64 b]] w fun e w' => e = .returned (.bool (!rrB a b)) ∧ Grows w w' := by
  have C1 := hide (fun (X : World) => ratioRight a b X)
  generalize rrB a b = rr at *
  go_enter Tryz.func91, Tryz.ntmps91
  go_wp2_with (first | (go_at_call 92; refine (C1.out _).mono ?_; rintro e w' ⟨rfl, hg⟩; (first | obtain ⟨x, rfl⟩ := Grows.later2 hg | obtain ⟨x, rfl⟩ := Grows.later hg); clear hg))
  go_ret
  exact ⟨rfl, GG⟩
def qC (p : Int × Int) : List Value := [.int .u64 p.1, .int .u64 p.2]
def gq (qs : List (Int × Int)) (k : Nat) : Int × Int := qs.getD k (0, 0)
theorem Rd.qsH {w : World} {A : Option Addr} {n : Nat} {qs : List (Int × Int)} (h : Rd w A 2 n (qs.flatMap qC)) (hn : 0 < n) :
    ∃ b off, A = some ⟨b, off, none⟩ ∧ ∀ k, k < n → Holds w ⟨b, off + k * 2, none⟩ (.int .u64 (gq qs k).1) ∧ Holds w ⟨b, off + k * 2 + 1, none⟩ (.int .u64 (gq qs k).2) := by
  have hl : qs.length = n := by
    have := h.1
    rw [flat_len qC 2 (fun _ => rfl)] at this
    omega
  obtain ⟨b, off, e, hc⟩ := h.2 hn (by omega)
  refine ⟨b, off, e, fun k hk => ⟨⟨?_⟩, ⟨?_⟩⟩⟩
  · exact hc (k * 2 + 0) _ (by rw [flat_get qC 2 (fun _ => rfl) (0, 0) qs k 0 (by omega) (by omega)]; rfl)
  · have := hc (k * 2 + 1) _ (by rw [flat_get qC 2 (fun _ => rfl) (0, 0) qs k 1 (by omega) (by omega)]; rfl)
    rwa [← Nat.add_assoc] at this
set_option maxHeartbeats 2000000 in
theorem indexQ (A : Option Addr) (n c : Nat) (qs : List (Int × Int)) (w : World) (h : Rd w A 2 n (qs.flatMap qC)) (hn : n ≤ 1000000) :
    Calls Tryz.prog 154 #[.slice A n c, .func (.func 91) #[] #[]] w fun e w' => e = .returned (.int .i64 (firstI (fun j => !rrB (gq qs j).1 (gq qs j).2) (List.range n))) ∧ Grows w w' := by
  have HR := hide h
  have CP := hide (fun (a b : Int) (X : World) => penRight2 a b X)
  clear h
  obtain ⟨p, hp⟩ : ∃ p : Nat → Bool, p = fun j => !rrB (gq qs j).1 (gq qs j).2 := ⟨_, rfl⟩
  rw [← hp]
  have HPJ := hide (show ∀ j, p j = !rrB (gq qs j).1 (gq qs j).2 from fun j => by rw [hp])
  clear hp
  go_enter Tryz.func154, Tryz.ntmps154
  go_wp2
  go_loopw [8] (fun i wr => ∃ k : Nat, k ≤ n ∧ i = .int .i64 (k : Int) ∧ (∃ x : Later w, wr = x.now) ∧ ∀ j, j < k → p j = false) (fun i _ => n - (Go.RowKit.intOf i).toNat)
  case atStart => exact ⟨0, by omega, by go_num, ⟨⟨w, Grows.refl w⟩, rfl⟩, fun j h1 => by omega⟩
  case round =>
    obtain ⟨q, hq, rfl, ⟨x, rfl⟩, hall⟩ := hrel
    have HA := hide hall
    clear hall
    by_cases hend : n ≤ q
    · go_wp2
      go_ret
      refine ⟨ret_int ?_, GG⟩
      rw [firstI_none]
      intro e he
      exact HA.out e (by have := List.mem_range.1 he; omega)
    · obtain ⟨b, off, rfl, hc⟩ := HR.out.qsH (by omega)
      obtain ⟨c1, c2⟩ := hc q (by omega)
      have HPQ := HPJ.out q
      generalize gq qs q = pr at *
      obtain ⟨u, v⟩ := pr
      simp only at c1 c2 HPQ
      have HC := hide (fun W => CP.out u v W)
      rw [← HPQ] at HC
      clear hc HPQ
      go_wp2_with fail
      refine (HC.out _).mono ?_; rintro e w' ⟨rfl, hg⟩; obtain ⟨x1, rfl⟩ := Grows.later2 hg; clear hg
      cases hp : p q with
      | true =>
        have HW : Hid (firstI p (List.range n) = q) := firstI_at p 0 (List.range n) q (by simp; omega) (fun j hj => by rw [List.getD_eq_getElem?_getD, List.getElem?_range (by omega)]; exact HA.out j hj) (by rw [List.getD_eq_getElem?_getD, List.getElem?_range (by omega)]; exact hp)
        clear hp
        go_wp2
        go_ret
        exact ⟨ret_int HW.out.symm, GG⟩
      | false =>
        have HP := hide hp
        clear hp
        go_wp2
        go_roundw
        case measure => simp [Go.RowKit.intOf]; omega
        case rel =>
          refine ⟨q + 1, by omega, by go_num, ⟨_, rfl⟩, fun j h1 => ?_⟩
          by_cases hj : j = q
          · rw [hj]; exact HP.out
          · exact HA.out j (by omega)
set_option maxHeartbeats 2000000 in
theorem containsQ (A : Option Addr) (n c : Nat) (qs : List (Int × Int)) (w : World) (h : Rd w A 2 n (qs.flatMap qC)) (hn : n ≤ 1000000) :
    Calls Tryz.prog 93 #[.slice A n c, .func (.func 91) #[] #[]] w fun e w' => e = .returned (.bool ((List.range n).any (fun j => !rrB (gq qs j).1 (gq qs j).2))) ∧ Grows w w' := by
  have HC := hide (indexQ A n c qs w h hn)
  have HV := hide (firstI_any (fun j => !rrB (gq qs j).1 (gq qs j).2) (List.range n))
  clear h
  generalize (fun j => !rrB (gq qs j).1 (gq qs j).2) = p at *
  go_enter Tryz.func93, Tryz.ntmps93
  go_wp2_with (first | (go_at_call 154; refine (HC.out).mono ?_; rintro e w' ⟨rfl, hg⟩; (first | obtain ⟨x, rfl⟩ := Grows.later2 hg | obtain ⟨x, rfl⟩ := Grows.later hg); clear hg))
  all_goals go_ret
  all_goals exact ⟨ret_bool (by rw [← HV.out]), GG⟩
set_option maxRecDepth 20000 in
set_option maxHeartbeats 4000000 in
theorem penRight (o : PO) (w : World) : Calls Tryz.prog 40 #[poV o] w fun e w' => e = .returned (.bool (poB o)) ∧ Grows w w' := by
  obtain ⟨k, r, f1, f2, a1, a2, e1, e2, g1, g2⟩ := o
  unfold poV poB
  dsimp only
  have C1 := hide (fun (n l m : Int) (X : World) => penRight1 n l m X)
  have C3 := hide (fun (X : World) (g : Nat) (h : Rd X (some ⟨g, 0, none⟩) 2 4 [.int .u64 f1, .int .u64 f2, .int .u64 a1, .int .u64 a2, .int .u64 e1, .int .u64 e2, .int .u64 g1, .int .u64 g2]) => show Calls Tryz.prog 93 #[.slice (some ⟨g, 0, none⟩) 4 4, .func (.func 91) #[] #[]] X fun e w' => e = .returned (.bool (!(rrB f1 f2 && (rrB a1 a2 && (rrB e1 e2 && rrB g1 g2))))) ∧ Grows X w' from by
    have hq := containsQ (some ⟨g, 0, none⟩) 4 4 [(f1, f2), (a1, a2), (e1, e2), (g1, g2)] X h (by omega)
    rw [show ((List.range 4).any (fun j => !rrB (gq [(f1, f2), (a1, a2), (e1, e2), (g1, g2)] j).1 (gq [(f1, f2), (a1, a2), (e1, e2), (g1, g2)] j).2)) = !(rrB f1 f2 && (rrB a1 a2 && (rrB e1 e2 && rrB g1 g2))) by
      show (!rrB f1 f2 || (!rrB a1 a2 || (!rrB e1 e2 || (!rrB g1 g2 || false)))) = _
      cases rrB f1 f2 <;> cases rrB a1 a2 <;> cases rrB e1 e2 <;> cases rrB g1 g2 <;> rfl] at hq
    exact hq)
  rw [show (inB k 1 1024 && (inB r 0 100 && (rrB f1 f2 && (rrB a1 a2 && (rrB e1 e2 && (rrB g1 g2 && decide (f2 ≤ f1))))))) = (inB k 1 1024 && (inB r 0 100 && ((rrB f1 f2 && (rrB a1 a2 && (rrB e1 e2 && rrB g1 g2))) && decide (f2 ≤ f1)))) by simp only [Bool.and_assoc]]
  generalize (rrB f1 f2 && (rrB a1 a2 && (rrB e1 e2 && rrB g1 g2))) = rr at *
  cases hbk : inB k 1 1024 with
  | false =>
    rw [Bool.false_and]
    go_enter Tryz.func40, Tryz.ntmps40
    go_wp2_with (go_at_call 90; refine (C1.out _ _ _ _).mono ?_; rintro e w' ⟨rfl, hg⟩; obtain ⟨x1, rfl⟩ := hg.later; clear hg)
    go_ret
    exact ⟨rfl, GG⟩
  | true =>
    rw [Bool.true_and]
    cases hbr : inB r 0 100 with
    | false =>
      rw [Bool.false_and]
      go_enter Tryz.func40, Tryz.ntmps40
      go_wp2_with (go_at_call 90; refine (C1.out _ _ _ _).mono ?_; rintro e w' ⟨rfl, hg⟩; obtain ⟨x1, rfl⟩ := hg.later; clear hg)
      go_ret
      exact ⟨rfl, GG⟩
    | true =>
      rw [Bool.true_and]
      cases rr with
      | false =>
        rw [Bool.false_and]
        go_enter Tryz.func40, Tryz.ntmps40
        go_wp2_with (first
          | (go_at_call 90; refine (C1.out _ _ _ _).mono ?_; rintro e w' ⟨rfl, hg⟩; obtain ⟨x1, rfl⟩ := hg.later; clear hg)
          | (go_at_call 93; refine (C3.out _ _ (Rd.made (t := 71) (size := 2) (n := 4) [.int .u64 f1, .int .u64 f2, .int .u64 a1, .int .u64 a2, .int .u64 e1, .int .u64 e2, .int .u64 g1, .int .u64 g2] rfl)).mono ?_; rintro e w' ⟨rfl, hg⟩; obtain ⟨x2, rfl⟩ := hg.later; clear hg))
        go_ret
        exact ⟨rfl, GG⟩
      | true =>
        rw [Bool.true_and]
        go_enter Tryz.func40, Tryz.ntmps40
        go_wp2_with (first
          | (go_at_call 90; refine (C1.out _ _ _ _).mono ?_; rintro e w' ⟨rfl, hg⟩; obtain ⟨x1, rfl⟩ := hg.later; clear hg)
          | (go_at_call 93; refine (C3.out _ _ (Rd.made (t := 71) (size := 2) (n := 4) [.int .u64 f1, .int .u64 f2, .int .u64 a1, .int .u64 a2, .int .u64 e1, .int .u64 e2, .int .u64 g1, .int .u64 g2] rfl)).mono ?_; rintro e w' ⟨rfl, hg⟩; obtain ⟨x2, rfl⟩ := hg.later; clear hg))
        go_ret
        exact ⟨rfl, GG⟩
set_option maxRecDepth 20000 in
set_option maxHeartbeats 4000000 in
theorem r32Right (o : PO) (hu1 : U64 o.f1) (hu2 : U64 o.a1) (hu3 : U64 o.e1) (hu4 : U64 o.g1) (w : World) : Calls Tryz.prog 41 #[poV o] w fun e w' => e = .returned (.bool (poB o)) ∧ Grows w w' := by
  obtain ⟨k, r, f1, f2, a1, a2, e1, e2, g1, g2⟩ := o
  unfold poV poB
  dsimp only at hu1 hu2 hu3 hu4 ⊢
  have C1 := hide (fun (a b : Int) (h : U64 a) (X : World) => rRight a b X h)
  have H1 := hide hu1
  have H2 := hide hu2
  have H3 := hide hu3
  have H4 := hide hu4
  clear hu1 hu2 hu3 hu4
  by_cases hk : 1 ≤ k ∧ k ≤ 1024 ∧ 0 ≤ r ∧ r ≤ 100
  · rw [show inB k 1 1024 = true from decide_eq_true ⟨hk.1, hk.2.1⟩, show inB r 0 100 = true from decide_eq_true ⟨hk.2.2.1, hk.2.2.2⟩, Bool.true_and, Bool.true_and]
    obtain ⟨k1, k2, k3, k4⟩ := hk
    cases q1 : rrB f1 f2 with
    | false =>
      simp only [Bool.false_and]
      go_enter Tryz.func41, Tryz.ntmps41
      go_upto_region 1 with fail
      obtain ⟨wg, hwg⟩ : ∃ wg, wg = w.alloc (.cells #[.int .i64 k, .int .i64 r, .int .u64 f1, .int .u64 f2, .int .u64 a1, .int .u64 a2, .int .u64 e1, .int .u64 e2, .int .u64 g1, .int .u64 g2] 77) := ⟨_, rfl⟩
      have hgg : Grows w wg := by rw [hwg]; exact (Grows.refl _).new _
      have a9 : Arr wg w.heap.size 77 [.int .i64 k, .int .i64 r, .int .u64 f1, .int .u64 f2, .int .u64 a1, .int .u64 a2, .int .u64 e1, .int .u64 e2, .int .u64 g1, .int .u64 g2] := by rw [hwg]; exact Arr.make _ _ _
      rw [← hwg]
      clear hwg
      obtain ⟨b9, hb9⟩ : ∃ b, b = w.heap.size := ⟨_, rfl⟩
      rw [← hb9] at a9 ⊢
      clear hb9
      have m6 := a9.mine 6 rfl
      have m7 := a9.mine 7 rfl
      have m8 := a9.mine 8 rfl
      have m9 := a9.mine 9 rfl
      go_wp2_with (go_at_call 94; refine (C1.out _ _ (by first | exact H1.out | exact H2.out | exact H3.out | exact H4.out) _).mono ?_; rintro e w' ⟨rfl, hg⟩; obtain ⟨x1, rfl⟩ := hg.later; clear hg)
      go_ret
      exact ⟨rfl, hgg.trans GG⟩
    | true =>
      cases q2 : rrB a1 a2 with
      | false =>
        simp only [Bool.false_and]
        go_enter Tryz.func41, Tryz.ntmps41
        go_upto_region 1 with fail
        obtain ⟨wg, hwg⟩ : ∃ wg, wg = w.alloc (.cells #[.int .i64 k, .int .i64 r, .int .u64 f1, .int .u64 f2, .int .u64 a1, .int .u64 a2, .int .u64 e1, .int .u64 e2, .int .u64 g1, .int .u64 g2] 77) := ⟨_, rfl⟩
        have hgg : Grows w wg := by rw [hwg]; exact (Grows.refl _).new _
        have a9 : Arr wg w.heap.size 77 [.int .i64 k, .int .i64 r, .int .u64 f1, .int .u64 f2, .int .u64 a1, .int .u64 a2, .int .u64 e1, .int .u64 e2, .int .u64 g1, .int .u64 g2] := by rw [hwg]; exact Arr.make _ _ _
        rw [← hwg]
        clear hwg
        obtain ⟨b9, hb9⟩ : ∃ b, b = w.heap.size := ⟨_, rfl⟩
        rw [← hb9] at a9 ⊢
        clear hb9
        have m6 := a9.mine 6 rfl
        have m7 := a9.mine 7 rfl
        have m8 := a9.mine 8 rfl
        have m9 := a9.mine 9 rfl
        go_wp2_with (go_at_call 94; refine (C1.out _ _ (by first | exact H1.out | exact H2.out | exact H3.out | exact H4.out) _).mono ?_; rintro e w' ⟨rfl, hg⟩; obtain ⟨x1, rfl⟩ := hg.later; clear hg)
        go_ret
        exact ⟨rfl, hgg.trans GG⟩
      | true =>
        cases q3 : rrB e1 e2 with
        | false =>
          simp only [Bool.false_and]
          go_enter Tryz.func41, Tryz.ntmps41
          go_upto_region 1 with fail
          obtain ⟨wg, hwg⟩ : ∃ wg, wg = w.alloc (.cells #[.int .i64 k, .int .i64 r, .int .u64 f1, .int .u64 f2, .int .u64 a1, .int .u64 a2, .int .u64 e1, .int .u64 e2, .int .u64 g1, .int .u64 g2] 77) := ⟨_, rfl⟩
          have hgg : Grows w wg := by rw [hwg]; exact (Grows.refl _).new _
          have a9 : Arr wg w.heap.size 77 [.int .i64 k, .int .i64 r, .int .u64 f1, .int .u64 f2, .int .u64 a1, .int .u64 a2, .int .u64 e1, .int .u64 e2, .int .u64 g1, .int .u64 g2] := by rw [hwg]; exact Arr.make _ _ _
          rw [← hwg]
          clear hwg
          obtain ⟨b9, hb9⟩ : ∃ b, b = w.heap.size := ⟨_, rfl⟩
          rw [← hb9] at a9 ⊢
          clear hb9
          have m6 := a9.mine 6 rfl
          have m7 := a9.mine 7 rfl
          have m8 := a9.mine 8 rfl
          have m9 := a9.mine 9 rfl
          go_wp2_with (go_at_call 94; refine (C1.out _ _ (by first | exact H1.out | exact H2.out | exact H3.out | exact H4.out) _).mono ?_; rintro e w' ⟨rfl, hg⟩; obtain ⟨x1, rfl⟩ := hg.later; clear hg)
          go_ret
          exact ⟨rfl, hgg.trans GG⟩
        | true =>
          cases q4 : rrB g1 g2 with
          | false =>
            simp only [Bool.false_and]
            go_enter Tryz.func41, Tryz.ntmps41
            go_upto_region 1 with fail
            obtain ⟨wg, hwg⟩ : ∃ wg, wg = w.alloc (.cells #[.int .i64 k, .int .i64 r, .int .u64 f1, .int .u64 f2, .int .u64 a1, .int .u64 a2, .int .u64 e1, .int .u64 e2, .int .u64 g1, .int .u64 g2] 77) := ⟨_, rfl⟩
            have hgg : Grows w wg := by rw [hwg]; exact (Grows.refl _).new _
            have a9 : Arr wg w.heap.size 77 [.int .i64 k, .int .i64 r, .int .u64 f1, .int .u64 f2, .int .u64 a1, .int .u64 a2, .int .u64 e1, .int .u64 e2, .int .u64 g1, .int .u64 g2] := by rw [hwg]; exact Arr.make _ _ _
            rw [← hwg]
            clear hwg
            obtain ⟨b9, hb9⟩ : ∃ b, b = w.heap.size := ⟨_, rfl⟩
            rw [← hb9] at a9 ⊢
            clear hb9
            have m6 := a9.mine 6 rfl
            have m7 := a9.mine 7 rfl
            have m8 := a9.mine 8 rfl
            have m9 := a9.mine 9 rfl
            go_wp2_with (go_at_call 94; refine (C1.out _ _ (by first | exact H1.out | exact H2.out | exact H3.out | exact H4.out) _).mono ?_; rintro e w' ⟨rfl, hg⟩; obtain ⟨x1, rfl⟩ := hg.later; clear hg)
            go_ret
            exact ⟨rfl, hgg.trans GG⟩
          | true =>
            simp only [Bool.true_and]
            go_enter Tryz.func41, Tryz.ntmps41
            go_upto_region 1 with fail
            obtain ⟨wg, hwg⟩ : ∃ wg, wg = w.alloc (.cells #[.int .i64 k, .int .i64 r, .int .u64 f1, .int .u64 f2, .int .u64 a1, .int .u64 a2, .int .u64 e1, .int .u64 e2, .int .u64 g1, .int .u64 g2] 77) := ⟨_, rfl⟩
            have hgg : Grows w wg := by rw [hwg]; exact (Grows.refl _).new _
            have a9 : Arr wg w.heap.size 77 [.int .i64 k, .int .i64 r, .int .u64 f1, .int .u64 f2, .int .u64 a1, .int .u64 a2, .int .u64 e1, .int .u64 e2, .int .u64 g1, .int .u64 g2] := by rw [hwg]; exact Arr.make _ _ _
            rw [← hwg]
            clear hwg
            obtain ⟨b9, hb9⟩ : ∃ b, b = w.heap.size := ⟨_, rfl⟩
            rw [← hb9] at a9 ⊢
            clear hb9
            have m6 := a9.mine 6 rfl
            have m7 := a9.mine 7 rfl
            have m8 := a9.mine 8 rfl
            have m9 := a9.mine 9 rfl
            go_wp2_with (go_at_call 94; refine (C1.out _ _ (by first | exact H1.out | exact H2.out | exact H3.out | exact H4.out) _).mono ?_; rintro e w' ⟨rfl, hg⟩; obtain ⟨x1, rfl⟩ := hg.later; clear hg)
            go_ret
            exact ⟨rfl, hgg.trans GG⟩
  · have HV := hide (show ∀ x, (inB k 1 1024 && (inB r 0 100 && x)) = false from fun x => by
      by_cases h1 : 1 ≤ k ∧ k ≤ 1024
      · rw [show inB r 0 100 = false from decide_eq_false (by omega)]; simp
      · rw [show inB k 1 1024 = false from decide_eq_false h1]; rfl)
    rw [HV.out]
    clear HV
    have hc : k < 1 ∨ (1 ≤ k ∧ 1024 < k) ∨ (1 ≤ k ∧ k ≤ 1024 ∧ r < 0) ∨ (1 ≤ k ∧ k ≤ 1024 ∧ 0 ≤ r ∧ 100 < r) := by omega
    clear hk
    rcases hc with h1 | ⟨h1, h2⟩ | ⟨h1, h2, h3⟩ | ⟨h1, h2, h3, h4⟩
    all_goals
      go_enter Tryz.func41, Tryz.ntmps41
      go_wp2_with fail
      go_ret
      exact ⟨rfl, GG⟩
end Go.Proofs.YtgplpgldhoelcaaGreat

namespace Go.Proofs.YtgplpgldhoelcaaGreat
open Go Go.RowKit
def ndI (E : List Edg) (s : Int) (l : List Int) : Nat → Int
  | 0 => s
  | k + 1 => (ge E (gi l k).toNat).t
def lkB (E : List Edg) (s : Int) (l : List Int) : Nat → Bool
  | 0 => true
  | k + 1 => lkB E s l k && decide ((ge E (gi l k).toNat).f = ndI E s l k)
theorem lkB_mono {E : List Edg} {s : Int} {l : List Int} {j : Nat} (h : lkB E s l j = false) : ∀ k, lkB E s l (j + k) = false
  | 0 => h
  | k + 1 => by show (lkB E s l (j + k) && _) = false; rw [lkB_mono h k]; rfl
def ndL (E : List Edg) (s : Int) (l : List Int) (k : Nat) : List Int := (List.range k).map (ndI E s l)
theorem ndL_succ (E : List Edg) (s : Int) (l : List Int) (k : Nat) : ndL E s l (k + 1) = ndL E s l k ++ [ndI E s l k] := by unfold ndL; rw [List.range_succ, List.map_append]; rfl
theorem ndL_len (E : List Edg) (s : Int) (l : List Int) (k : Nat) : (ndL E s l k).length = k := by simp [ndL]
theorem ndL_at (E : List Edg) (s : Int) (l : List Int) (k j : Nat) (h : j < k) : gi (ndL E s l k) j = ndI E s l j := by simp [gi, ndL, h]
def isB (N : Int) (E : List Edg) (s : Int) (l : List Int) : Bool := edgesB N E l && (nodeB N s && lkB E s l l.length)
def nodesL (N : Int) (E : List Edg) (s : Int) (l : List Int) : List Int := if isB N E s l then ndL E s l (l.length + 1) else []
def GiveIB (w : World) (l : List Int) (b : Bool) (e : Ending) (w' : World) : Prop := ∃ A c, e = .returned (.tuple #[.slice A l.length c, .bool b]) ∧ Rd w' A 1 l.length (l.map (.int .i64)) ∧ Grows w w'
def GiveIBc (w : World) (l : List Int) (b : Bool) (e : Ending) (w' : World) : Prop := ∃ A c, e = .returned (.tuple #[.slice A l.length c, .bool b]) ∧ l.length ≤ c ∧ Rd w' A 1 l.length (l.map (.int .i64)) ∧ Grows w w'
theorem Own.cap {w : World} {B n c size : Nat} {e : TypeId} {A : Option Addr} {xs : List Value} (h : Own w B e size A n c xs) : n ≤ c := by
  rcases Nat.eq_zero_or_pos n with h0 | h0
  · omega
  · obtain ⟨_, _, _, _, _, h1, _⟩ := h.at_ h0
    exact h1
theorem edges_in {N : Int} {E : List Edg} {l : List Int} (h : edgesB N E l = true) {k : Nat} (hk : k < l.length) : 0 ≤ gi l k ∧ (gi l k).toNat < E.length := by
  unfold edgesB at h
  simp only [Bool.and_eq_true, Bool.not_eq_true', List.any_eq_false] at h
  have := h.2 _ (gi_mem hk)
  unfold edgeB at this
  simp at this
  omega
set_option maxRecDepth 20000 in
set_option maxHeartbeats 2000000 in
theorem pNodes (N : Int) (A : Option Addr) (m c : Nat) (E : List Edg) (s : Int) (B : Option Addr) (n d : Nat) (l : List Int) (w : World) (h : Rd w A 3 m (esCells E)) (hm : m ≤ 1000000) (h' : Rd w B 1 n (l.map (.int .i64))) (hn : n ≤ 1000000) :
    Calls Tryz.prog 145 #[.agg #[.int .i64 N, .slice A m c], .int .i64 s, .slice B n d] w (GiveIB w (nodesL N E s l) (isB N E s l)) := by
  have HL := hide (show l.length = n by simpa using h'.len)
  have HE := hide h.elen
  have C1 := fun (W : World) (g : Grows w W) => pEdges N A m c E B n d l W (h.grows g) hm (h'.grows g) hn
  have C2 := fun (W : World) => gNode N s (.slice A m c) W
  have HR := hide h
  have HS := hide h'
  clear h h'
  cases he : edgesB N E l with
  | false =>
    have e1 : isB N E s l = false := by unfold isB; rw [he]; rfl
    have HV : Hid (nodesL N E s l = []) := by unfold nodesL; rw [e1]; rfl
    rw [HV.out, e1]
    rw [he] at C1
    have H1 := hide C1
    clear C1 C2 he e1
    go_enter Tryz.func145, Tryz.ntmps145
    go_wp2_with (first | (go_at_call 194; refine (H1.out _ GG).mono ?_; rintro e w' ⟨rfl, hg⟩; (first | obtain ⟨x, rfl⟩ := Grows.later2 hg | obtain ⟨x, rfl⟩ := Grows.later hg); clear hg))
    go_ret2
    exact ⟨none, 0, rfl, ⟨rfl, fun h => absurd h (by simp)⟩, GG⟩
  | true =>
  rw [he] at C1
  have H1 := hide C1
  cases hs : nodeB N s with
  | false =>
    have e1 : isB N E s l = false := by unfold isB; rw [he, hs]; rfl
    have HV : Hid (nodesL N E s l = []) := by unfold nodesL; rw [e1]; rfl
    rw [HV.out, e1]
    rw [hs] at C2
    have H2 := hide C2
    clear C1 C2 he e1 hs
    go_enter Tryz.func145, Tryz.ntmps145
    go_wp2_with (first | (go_at_call 194; refine (H1.out _ GG).mono ?_; rintro e w' ⟨rfl, hg⟩; (first | obtain ⟨x, rfl⟩ := Grows.later2 hg | obtain ⟨x, rfl⟩ := Grows.later hg); clear hg) | (go_at_call 77; refine (H2.out _).mono ?_; rintro e w' ⟨rfl, hg⟩; (first | obtain ⟨x, rfl⟩ := Grows.later2 hg | obtain ⟨x, rfl⟩ := Grows.later hg); clear hg))
    go_ret2
    exact ⟨none, 0, rfl, ⟨rfl, fun h => absurd h (by simp)⟩, GG⟩
  | true =>
  have HV : Hid (isB N E s l = lkB E s l n) := by unfold isB; rw [he, hs, HL.out]; exact rfl
  have HI := hide (fun k (hk : k < n) => edges_in he (k := k) (by rw [HL.out]; exact hk))
  rw [hs] at C2
  have H2 := hide C2
  clear C1 C2 he hs
  go_enter Tryz.func145, Tryz.ntmps145
  go_wp2_with (first | (go_at_call 194; refine (H1.out _ GG).mono ?_; rintro e w' ⟨rfl, hg⟩; (first | obtain ⟨x, rfl⟩ := Grows.later2 hg | obtain ⟨x, rfl⟩ := Grows.later hg); clear hg) | (go_at_call 77; refine (H2.out _).mono ?_; rintro e w' ⟨rfl, hg⟩; (first | obtain ⟨x, rfl⟩ := Grows.later2 hg | obtain ⟨x, rfl⟩ := Grows.later hg); clear hg))
  go_loopw [25, 8, 1] (fun i u t wr => ∃ k : Nat, k ≤ n ∧ i = .int .i64 (k : Int) ∧ t = .int .i64 (ndI E s l k) ∧ lkB E s l k = true ∧ ∃ y : Later (w.alloc (.cells #[.int .i64 N, .slice A m c] 35)), wr = y.now ∧
    ∃ A' c', u = .slice A' (k + 1) c' ∧ Own y.now (w.alloc (.cells #[.int .i64 N, .slice A m c] 35)).heap.size 3 1 A' (k + 1) c' ((ndL E s l (k + 1)).map (.int .i64))) (fun i _ _ _ => n - (intOf i).toNat)
  case atStart =>
    refine ⟨0, by omega, by go_num, rfl, rfl, ⟨_, x.grows.new _⟩, rfl, _, _, rfl, ?_⟩
    exact Own.build x.now 3 [.int .i64 s] _ x.size (by simp)
  case round =>
    obtain ⟨k, hk, rfl, rfl, hlk, y, rfl, A', c', rfl, hown⟩ := hrel
    have HO := hide hown
    have HK := hide hlk
    clear hown hlk
    by_cases hend : n ≤ k
    · have hkm : k = n := by omega
      subst hkm
      go_wp2
      go_ret2
      have e1 : isB N E s l = true := HV.out.trans HK.out
      have e2 : nodesL N E s l = ndL E s l (k + 1) := by unfold nodesL; rw [e1, HL.out]; rfl
      rw [e1, e2]
      refine ⟨A', c', by rw [ndL_len]; rfl, ?_, GG⟩
      rw [ndL_len]
      exact HO.out.rd
    · obtain ⟨b, off, rfl, hc⟩ := HS.out.intsH (by omega)
      have c1 := hc k (by omega)
      obtain ⟨i1, i2⟩ := HI.out k (by omega)
      rw [HE.out] at i2
      obtain ⟨b2, off2, rfl, hc2⟩ := HR.out.edgesH (by omega)
      obtain ⟨c2, c3, c4⟩ := hc2 (gi l k).toNat i2
      clear hc hc2
      by_cases hf : (ge E (gi l k).toNat).f = ndI E s l k
      · have hlk2 : Hid (lkB E s l (k + 1) = true) := by show (lkB E s l k && decide _) = true; rw [HK.out, decide_eq_true hf]; rfl
        have HN : Hid (ndI E s l (k + 1) = (ge E (gi l k).toNat).t) := rfl
        have HL2 := hide (ndL_succ E s l (k + 1))
        have hne : ((ge E (gi l k).toNat).f == ndI E s l k) = true := by simpa using hf
        clear hf
        generalize (ge E (gi l k).toNat).t = t at *
        generalize (ge E (gi l k).toNat).f = f at *
        generalize hq : gi l k = q at *
        obtain ⟨q, rfl⟩ := Int.eq_ofNat_of_zero_le i1
        simp only [Int.toNat_natCast] at i2 c2 c3 c4
        go_wp2_with (at_builtin; refine wp_app1 elemInt rfl _ _ rfl _ GG (k + 1) c' A' _ rfl (HO.out.new _) _ _ _ rfl inferInstance rfl (by omega) ?_; intro A3 c3 y3 hown3; have HO3 := hide hown3; clear hown3)
        go_roundw
        case measure => simp [intOf]; omega
        case rel =>
          refine ⟨k + 1, by omega, by go_num, by rw [HN.out], hlk2.out, y3, rfl, A3, c3, rfl, ?_⟩
          rw [HL2.out, HN.out, List.map_append]
          exact HO3.out
      · have e1 : isB N E s l = false := by
          have : lkB E s l (k + 1) = false := by show (lkB E s l k && decide _) = false; rw [decide_eq_false hf, Bool.and_false]
          have := lkB_mono this (n - (k + 1))
          rw [show k + 1 + (n - (k + 1)) = n by omega] at this
          exact HV.out.trans this
        have hne : ((ge E (gi l k).toNat).f == ndI E s l k) = false := by simpa using hf
        have HW : Hid (nodesL N E s l = []) := by unfold nodesL; rw [e1]; rfl
        rw [HW.out, e1]
        clear hf e1
        generalize (ge E (gi l k).toNat).f = f at *
        generalize hq : gi l k = q at *
        obtain ⟨q, rfl⟩ := Int.eq_ofNat_of_zero_le i1
        simp only [Int.toNat_natCast] at i2 c2 c3 c4
        go_wp2
        go_ret2
        exact ⟨none, 0, rfl, ⟨rfl, fun h => absurd h (by simp)⟩, GG⟩
set_option maxRecDepth 20000 in
set_option maxHeartbeats 2000000 in
theorem r8NodesC (N : Int) (A : Option Addr) (m c : Nat) (E : List Edg) (s : Int) (B : Option Addr) (n d : Nat) (l : List Int) (w : World) (h : Rd w A 3 m (esCells E)) (hm : m ≤ 1000000) (h' : Rd w B 1 n (l.map (.int .i64))) (hn : n ≤ 1000000) :
    Calls Tryz.prog 74 #[.agg #[.int .i64 N, .slice A m c], .int .i64 s, .slice B n d] w (GiveIBc w (nodesL N E s l) (isB N E s l)) := by
  have HL := hide (show l.length = n by simpa using h'.len)
  have HE := hide h.elen
  have C1 := fun (W : World) (g : Grows w W) => r8edges N A m c E B n d l W (h.grows g) hm (h'.grows g) hn
  have HR := hide h
  have HS := hide h'
  clear h h'
  cases he : edgesB N E l with
  | false =>
    have e1 : isB N E s l = false := by unfold isB; rw [he]; rfl
    have HV : Hid (nodesL N E s l = []) := by unfold nodesL; rw [e1]; rfl
    rw [HV.out, e1]
    rw [he] at C1
    have H1 := hide C1
    clear C1 he e1
    go_enter Tryz.func74, Tryz.ntmps74
    go_wp2_with (first | (go_at_call 85; refine (H1.out _ GG).mono ?_; rintro e w' ⟨rfl, hg⟩; (first | obtain ⟨x, rfl⟩ := Grows.later2 hg | obtain ⟨x, rfl⟩ := Grows.later hg); clear hg))
    go_ret2
    exact ⟨none, 0, rfl, Nat.le_refl _, ⟨rfl, fun h => absurd h (by simp)⟩, GG⟩
  | true =>
  rw [he] at C1
  have H1 := hide C1
  cases hs : nodeB N s with
  | false =>
    have e1 : isB N E s l = false := by unfold isB; rw [he, hs]; rfl
    have HV : Hid (nodesL N E s l = []) := by unfold nodesL; rw [e1]; rfl
    rw [HV.out, e1]
    have hs2 : ¬ (0 ≤ s ∧ s < N) := by unfold nodeB at hs; simpa using hs
    clear C1 he e1 hs
    go_enter Tryz.func74, Tryz.ntmps74
    go_wp2_with (first | (go_at_call 85; refine (H1.out _ GG).mono ?_; rintro e w' ⟨rfl, hg⟩; (first | obtain ⟨x, rfl⟩ := Grows.later2 hg | obtain ⟨x, rfl⟩ := Grows.later hg); clear hg))
    all_goals first | (exfalso; omega) | skip
    all_goals go_ret2
    all_goals exact ⟨none, 0, rfl, Nat.le_refl _, ⟨rfl, fun h => absurd h (by simp)⟩, GG⟩
  | true =>
  have HV : Hid (isB N E s l = lkB E s l n) := by unfold isB; rw [he, hs, HL.out]; exact rfl
  have HI := hide (fun k (hk : k < n) => edges_in he (k := k) (by rw [HL.out]; exact hk))
  obtain ⟨hs1, hs2⟩ : 0 ≤ s ∧ s < N := by unfold nodeB at hs; simpa using hs
  clear C1 he hs
  go_enter Tryz.func74, Tryz.ntmps74
  go_wp2_with (first | (go_at_call 85; refine (H1.out _ GG).mono ?_; rintro e w' ⟨rfl, hg⟩; (first | obtain ⟨x, rfl⟩ := Grows.later2 hg | obtain ⟨x, rfl⟩ := Grows.later hg); clear hg))
  all_goals first | (exfalso; omega) | skip
  go_loopw [9, 8] (fun i u wr => ∃ k : Nat, k ≤ n ∧ i = .int .i64 (k : Int) ∧ lkB E s l k = true ∧ ∃ y : Later (w.alloc (.cells #[.int .i64 N, .slice A m c] 35)), wr = y.now ∧
    ∃ A' c', u = .slice A' (k + 1) c' ∧ Own y.now (w.alloc (.cells #[.int .i64 N, .slice A m c] 35)).heap.size 3 1 A' (k + 1) c' ((ndL E s l (k + 1)).map (.int .i64))) (fun i _ _ => n - (intOf i).toNat)
  case atStart =>
    refine ⟨0, by omega, by go_num, rfl, ⟨_, x.grows.new _⟩, rfl, _, _, rfl, ?_⟩
    exact Own.build x.now 3 [.int .i64 s] _ x.size (by simp)
  case round =>
    obtain ⟨k, hk, rfl, hlk, y, rfl, A', c', rfl, hown⟩ := hrel
    have HO := hide hown
    have HK := hide hlk
    clear hown hlk
    by_cases hend : n ≤ k
    · have hkm : k = n := by omega
      subst hkm
      go_wp2
      go_ret2
      have e1 : isB N E s l = true := HV.out.trans HK.out
      have e2 : nodesL N E s l = ndL E s l (k + 1) := by unfold nodesL; rw [e1, HL.out]; rfl
      rw [e1, e2]
      refine ⟨A', c', by rw [ndL_len]; rfl, by rw [ndL_len]; exact HO.out.cap, ?_, GG⟩
      rw [ndL_len]
      exact HO.out.rd
    · obtain ⟨b, off, rfl, hc⟩ := HS.out.intsH (by omega)
      have c1 := hc k (by omega)
      obtain ⟨i1, i2⟩ := HI.out k (by omega)
      rw [HE.out] at i2
      obtain ⟨b2, off2, rfl, hc2⟩ := HR.out.edgesH (by omega)
      obtain ⟨c2, c3, c4⟩ := hc2 (gi l k).toNat i2
      obtain ⟨g, rfl, hg, hcs⟩ := HO.out.at (by omega)
      have c5 := hcs k _ (by rw [List.getElem?_map, ndL_succ, List.getElem?_append_right (by rw [ndL_len]; omega), ndL_len, Nat.sub_self]; rfl)
      clear hcs
      clear hc hc2
      by_cases hf : (ge E (gi l k).toNat).f = ndI E s l k
      · have hlk2 : Hid (lkB E s l (k + 1) = true) := by show (lkB E s l k && decide _) = true; rw [HK.out, decide_eq_true hf]; rfl
        have HN : Hid (ndI E s l (k + 1) = (ge E (gi l k).toNat).t) := rfl
        have HL2 := hide (ndL_succ E s l (k + 1))
        have hne : ((ge E (gi l k).toNat).f == ndI E s l k) = true := by simpa using hf
        clear hf
        generalize (ge E (gi l k).toNat).t = t at *
        generalize (ge E (gi l k).toNat).f = f at *
        generalize hq : gi l k = q at *
        obtain ⟨q, rfl⟩ := Int.eq_ofNat_of_zero_le i1
        simp only [Int.toNat_natCast] at i2 c2 c3 c4
        generalize (ge E q).w = w3 at *
        go_wp2_with fail
        go_region
        go_wp2_with fail
        go_region
        go_wp2_with (at_builtin; refine wp_app1 elemInt rfl _ _ rfl _ GG (k + 1) c' _ _ rfl (HO.out.grows GG) _ _ _ rfl inferInstance rfl (by omega) ?_; intro A3 c3 y3 hown3; have HO3 := hide hown3; clear hown3)
        refine ⟨⟨k + 1, by omega, by go_num, hlk2.out, y3, rfl, A3, c3, rfl, ?_⟩, by simp [intOf]; omega⟩
        rw [HL2.out, HN.out, List.map_append]
        exact HO3.out
      · have e1 : isB N E s l = false := by
          have : lkB E s l (k + 1) = false := by show (lkB E s l k && decide _) = false; rw [decide_eq_false hf, Bool.and_false]
          have := lkB_mono this (n - (k + 1))
          rw [show k + 1 + (n - (k + 1)) = n by omega] at this
          exact HV.out.trans this
        have hne : ((ge E (gi l k).toNat).f == ndI E s l k) = false := by simpa using hf
        have HW : Hid (nodesL N E s l = []) := by unfold nodesL; rw [e1]; rfl
        rw [HW.out, e1]
        clear hf e1
        generalize (ge E (gi l k).toNat).t = t at *
        generalize (ge E (gi l k).toNat).f = f at *
        generalize hq : gi l k = q at *
        obtain ⟨q, rfl⟩ := Int.eq_ofNat_of_zero_le i1
        simp only [Int.toNat_natCast] at i2 c2 c3 c4
        generalize (ge E q).w = w3 at *
        go_wp2_with fail
        go_region
        go_wp2_with fail
        go_region
        go_wp2
        go_ret2
        exact ⟨none, 0, rfl, Nat.le_refl _, ⟨rfl, fun h => absurd h (by simp)⟩, GG⟩
theorem r8Nodes (N : Int) (A : Option Addr) (m c : Nat) (E : List Edg) (s : Int) (B : Option Addr) (n d : Nat) (l : List Int) (w : World) (h : Rd w A 3 m (esCells E)) (hm : m ≤ 1000000) (h' : Rd w B 1 n (l.map (.int .i64))) (hn : n ≤ 1000000) :
    Calls Tryz.prog 74 #[.agg #[.int .i64 N, .slice A m c], .int .i64 s, .slice B n d] w (GiveIB w (nodesL N E s l) (isB N E s l)) :=
  (r8NodesC N A m c E s B n d l w h hm h' hn).mono fun _ _ ⟨A, c, h1, _, h2⟩ => ⟨A, c, h1, h2⟩
end Go.Proofs.YtgplpgldhoelcaaGreat

