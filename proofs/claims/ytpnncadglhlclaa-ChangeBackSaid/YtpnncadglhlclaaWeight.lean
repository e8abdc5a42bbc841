/- Contracts: what a row of edges weighs, by the program and by its answer. -/
import Derived.Test.YtpnncadglhlclaaOwn3
import Derived.Test.YtpnncadglhlclaaPath
import Derived.Test.YtpnncadglhlclaaRef08
import Derived.Test.YtpnncadglhlclaaTail
import Derived.Lib.SliceRun
namespace Go.Proofs.Ytpnncadglhlclaa
open Go Go.RowKit
/-- What the first k edges of a row weigh. -/
def wtK (E : List Edg) (l : List Int) : Nat → Int
  | 0 => 0
  | k + 1 => wtK E l k + (ge E (gi l k).toNat).w
theorem wtK_succ (E : List Edg) (l : List Int) (k : Nat) : wtK E l (k + 1) = wtK E l k + (ge E (gi l k).toNat).w := rfl
theorem right_weight {N : Int} {E : List Edg} (h : rightF N E = 0) {k : Nat} (hk : k < E.length) : 1 ≤ (ge E k).w ∧ (ge E k).w ≤ 4294967296 := by
  unfold rightF at h
  split at h
  · omega
  · split at h
    · omega
    · split at h
      · omega
      · split at h
        · omega
        · rename_i h4
          have h5 : E.any heavyB = false := by simpa using h4
          rw [List.any_eq_false] at h5
          have hm : ge E k ∈ E := by
            unfold ge
            rw [List.getD_eq_getElem?_getD, List.getElem?_eq_getElem hk]
            exact List.getElem_mem _
          have := h5 _ hm
          unfold heavyB wtB at this
          simpa using this
theorem edges_in2 {N : Int} {E : List Edg} {l : List Int} (h : edgesB N E l = true) {k : Nat} (hk : k < l.length) : rightF N E = 0 ∧ 0 ≤ gi l k ∧ (gi l k).toNat < E.length := by
  unfold edgesB at h
  simp only [Bool.and_eq_true, Bool.not_eq_true', List.any_eq_false, decide_eq_true_eq] at h
  have := h.2 _ (gi_mem hk)
  unfold edgeB at this
  simp at this
  exact ⟨h.1, by omega, by omega⟩
theorem wtK_bd {N : Int} {E : List Edg} {l : List Int} (h : edgesB N E l = true) : ∀ k, k ≤ l.length → 0 ≤ wtK E l k ∧ wtK E l k ≤ k * 4294967296
  | 0, _ => by simp [wtK]
  | k + 1, hk => by
    have ih := wtK_bd h k (by omega)
    obtain ⟨h1, h2, h3⟩ := edges_in2 h (k := k) (by omega)
    have := right_weight h1 h3
    rw [wtK_succ]
    omega
/-- The row of all sums. -/
def ofL (E : List Edg) (l : List Int) (n k : Nat) : List Int := (List.range n).map fun j => if j ≤ k then wtK E l j else 0
theorem ofL_len (E : List Edg) (l : List Int) (n k : Nat) : (ofL E l n k).length = n := by simp [ofL]
theorem ofL_at (E : List Edg) (l : List Int) {n k j : Nat} (hj : j < n) (hk : j ≤ k) : (ofL E l n k)[j]? = some (wtK E l j) := by simp [ofL, hj, hk]
theorem ofL_start (E : List Edg) (l : List Int) (n : Nat) : (ofL E l n 0).map (Value.int .u64) = List.replicate n (.int .u64 0) := by
  apply List.ext_getElem (by simp [ofL])
  intro j h1 h2
  simp only [ofL, List.map_map, List.getElem_map, List.getElem_range, List.getElem_replicate, Function.comp]
  split
  · rename_i h
    have : j = 0 := by omega
    subst this
    rfl
  · rfl
theorem ofL_next (E : List Edg) (l : List Int) (n k : Nat) : ((ofL E l n k).map (Value.int .u64)).set (k + 1) (.int .u64 (wtK E l (k + 1))) = (ofL E l n (k + 1)).map (.int .u64) := by
  apply List.ext_getElem (by simp [ofL])
  intro j h1 h2
  rw [List.getElem_set]
  simp only [ofL, List.map_map, List.getElem_map, List.getElem_range, Function.comp]
  by_cases hj : k + 1 = j
  · subst hj; simp
  · rw [if_neg hj]
    by_cases h3 : j ≤ k
    · rw [if_pos h3, if_pos (by omega)]
    · rw [if_neg h3, if_neg (by omega)]
theorem ofL_end (E : List Edg) (l : List Int) (n : Nat) : ofL E l (n + 1) n = (List.range (n + 1)).map (wtK E l) := by
  unfold ofL
  apply List.map_congr_left
  intro j hj
  rw [if_pos (by have := List.mem_range.1 hj; omega)]
set_option maxRecDepth 20000 in
set_option maxHeartbeats 2000000 in
theorem r8Weight (N : Int) (A : Option Addr) (m c : Nat) (E : List Edg) (B : Option Addr) (n d : Nat) (l : List Int) (w : World) (h : Rd w A 3 m (esCells E)) (hm : m ≤ 1000000) (h' : Rd w B 1 n (l.map (.int .i64))) (hn : n ≤ 1000000) :
    Calls Try.prog 58 #[.agg #[.int .i64 N, .slice A m c], .slice B n d] w fun e w' => e = .returned (.tuple #[.int .u64 (if edgesB N E l then wtK E l l.length else 0), .bool (edgesB N E l)]) ∧ Grows w w' := by
  have HL := hide (show l.length = n by simpa using h'.len)
  have HE := hide h.elen
  have C1 := fun (W : World) (g : Grows w W) => r8edges N A m c E B n d l W (h.grows g) hm (h'.grows g) hn
  have HR := hide h
  have HS := hide h'
  clear h h'
  cases he : edgesB N E l with
  | false =>
    rw [he] at C1
    have H1 := hide C1
    clear C1 he
    go_enter Try.func58, Try.ntmps58
    go_wp2_with (first | (go_at_call 98; refine (H1.out _ (by repeat (first | exact Grows.refl _ | refine Grows.now ?_ _ | refine Grows.new ?_ _ | refine Grows.drewN ?_ _ | refine Grows.drew ?_ | assumption | (refine Grows.set ?_ (by first | omega | (simp; done) | (simp; omega)) _)))).mono ?_; rintro e w' ⟨rfl, hg⟩; (first | obtain ⟨x, rfl⟩ := Grows.later2 hg | obtain ⟨x, rfl⟩ := Grows.later hg); clear hg))
    go_ret2
    exact ⟨rfl, (by repeat (first | exact Grows.refl _ | refine Grows.now ?_ _ | refine Grows.new ?_ _ | refine Grows.drewN ?_ _ | refine Grows.drew ?_ | assumption | (refine Grows.set ?_ (by first | omega | (simp; done) | (simp; omega)) _)))⟩
  | true =>
    have HI := hide (fun k (hk : k < n) => edges_in2 he (k := k) (by rw [HL.out]; exact hk))
    have HB := hide (fun k (hk : k ≤ n) => wtK_bd he k (by rw [HL.out]; exact hk))
    rw [he] at C1
    have H1 := hide C1
    clear C1 he
    go_enter Try.func58, Try.ntmps58
    go_wp2_with (first | (go_at_call 98; refine (H1.out _ (by repeat (first | exact Grows.refl _ | refine Grows.now ?_ _ | refine Grows.new ?_ _ | refine Grows.drewN ?_ _ | refine Grows.drew ?_ | assumption | (refine Grows.set ?_ (by first | omega | (simp; done) | (simp; omega)) _)))).mono ?_; rintro e w' ⟨rfl, hg⟩; (first | obtain ⟨x, rfl⟩ := Grows.later2 hg | obtain ⟨x, rfl⟩ := Grows.later hg); clear hg))
    go_loopw [7, 6] (fun i u wr => ∃ k : Nat, k ≤ n ∧ i = .int .i64 (k : Int) ∧ u = .int .u64 (wtK E l k) ∧ ∃ y : Later x.now, wr = y.now) (fun i _ _ => n - (intOf i).toNat)
    case atStart => exact ⟨0, by omega, by go_num, rfl, ⟨_, Grows.refl _⟩, rfl⟩
    case round =>
      obtain ⟨k, hk, rfl, rfl, y, rfl⟩ := hrel
      by_cases hend : n ≤ k
      · have hkm : k = n := by omega
        subst hkm
        go_wp2
        go_ret2
        exact ⟨by rw [HL.out]; rfl, (by repeat (first | exact Grows.refl _ | refine Grows.now ?_ _ | refine Grows.new ?_ _ | refine Grows.drewN ?_ _ | refine Grows.drew ?_ | assumption | (refine Grows.set ?_ (by first | omega | (simp; done) | (simp; omega)) _)))⟩
      · obtain ⟨b, off, rfl, hc⟩ := HS.out.intsH (by omega)
        have c1 := hc k (by omega)
        obtain ⟨i0, i1, i2⟩ := HI.out k (by omega)
        have hw := right_weight i0 i2
        rw [HE.out] at i2
        obtain ⟨b2, off2, rfl, hc2⟩ := HR.out.edgesH (by omega)
        obtain ⟨c2, c3, c4⟩ := hc2 (gi l k).toNat i2
        obtain ⟨b0, b1⟩ := HB.out k (by omega)
        have HN := hide (wtK_succ E l k)
        clear hc hc2 i0
        generalize wtK E l k = a at *
        generalize (ge E (gi l k).toNat).w = v at *
        generalize hq : gi l k = q at *
        obtain ⟨q, rfl⟩ := Int.eq_ofNat_of_zero_le i1
        simp only [Int.toNat_natCast] at i2 c2 c3 c4
        go_wp2_with fail
        ((first | refine wp_region_gen (by kernel_rfl) (by kernel_rfl) ?_); (repeat' (first | (refine gLex_val0 rfl (by kernel_rfl) (fun K hK => ?_); (go_simp; (try (simp only [↓IntWalk.iteOmega]; try go_simp)); (try simp (disch := omega) only [IntWalk.i64_in]); (try simp (disch := omega) only [IntWalk.u64_in]); first | (refine hK _ ?_; clear hK K) | (apply Exists.intro; refine ⟨fun x => ?_, hK _ ?_⟩; (first | fail); clear hK K))) | (refine gLex_undef rfl rfl rfl (by kernel_rfl) (fun K hK => ?_); go_simp; refine hK _ ?_; clear hK K) | (refine gLex_ask rfl rfl rfl ?_; first | (apply gAsk_yes; kernel_rfl; intro K hK; (go_simp; (try (simp only [↓IntWalk.iteOmega]; try go_simp)); (try simp (disch := omega) only [IntWalk.i64_in]); (try simp (disch := omega) only [IntWalk.u64_in]); first | (refine hK _ ?_; clear hK K) | (apply Exists.intro; refine ⟨fun x => ?_, hK _ ?_⟩; (first | fail); clear hK K))) | ((first | apply gAsk_no1 | apply gAsk_no2); kernel_rfl; intro K hK; simp [go_sem]; refine hK _ ?_; clear hK K) | (apply gAsk_part; kernel_rfl; all_goals (intro h K hK; (try simp only [Bool.not_true] at h); (try simp only [Bool.not_false] at h); (try simp only [decide_eq_true_eq] at h); (try simp only [decide_eq_false_iff_not] at h); first | (exfalso; first | contradiction | omega) | (go_simp; (try (simp only [↓IntWalk.iteOmega]; try go_simp)); (try simp (disch := omega) only [IntWalk.i64_in]); (try simp (disch := omega) only [IntWalk.u64_in]); first | (refine hK _ ?_; clear hK K) | (apply Exists.intro; refine ⟨fun x => ?_, hK _ ?_⟩; (first | fail); clear hK K))))))); all_goals ((apply gLex_end); intro x))
        go_wp2
        exact ⟨⟨k + 1, by omega, by go_num, by rw [HN.out], Grows.later (by repeat (first | exact Grows.refl _ | refine Grows.now ?_ _ | refine Grows.new ?_ _ | refine Grows.drewN ?_ _ | refine Grows.drew ?_ | assumption | (refine Grows.set ?_ (by first | omega | (simp; done) | (simp; omega)) _)))⟩, by simp [intOf]; omega⟩
/-- What Offsets hands back. -/
def OffPost (E : List Edg) (l : List Int) (b : Bool) (w : World) (e : Ending) (w' : World) : Prop :=
  if b then ∃ g c, e = .returned (.slice (some ⟨g, 0, none⟩) (l.length + 1) c) ∧ Rd w' (some ⟨g, 0, none⟩) 1 (l.length + 1) (((List.range (l.length + 1)).map (wtK E l)).map (.int .u64)) ∧ Grows w w'
  else e = .returned (.slice none 0 0) ∧ Grows w w'
set_option maxRecDepth 20000 in
set_option maxHeartbeats 2000000 in
theorem pOffsets (N : Int) (A : Option Addr) (m c : Nat) (E : List Edg) (B : Option Addr) (n d : Nat) (l : List Int) (w : World) (h : Rd w A 3 m (esCells E)) (hm : m ≤ 1000000) (h' : Rd w B 1 n (l.map (.int .i64))) (hn : n ≤ 1000000) :
    Calls Try.prog 134 #[.agg #[.int .i64 N, .slice A m c], .slice B n d] w (OffPost E l (edgesB N E l) w) := by
  have HL := hide (show l.length = n by simpa using h'.len)
  have HE := hide h.elen
  have C1 := fun (W : World) (g : Grows w W) => pEdges N A m c E B n d l W (h.grows g) hm (h'.grows g) hn
  have HR := hide h
  have HS := hide h'
  clear h h'
  cases he : edgesB N E l with
  | false =>
    rw [he] at C1
    have H1 := hide C1
    clear C1 he
    go_enter Try.func134, Try.ntmps134
    go_wp2_with (first | (go_at_call 135; refine (H1.out _ (by repeat (first | exact Grows.refl _ | refine Grows.now ?_ _ | refine Grows.new ?_ _ | refine Grows.drewN ?_ _ | refine Grows.drew ?_ | assumption | (refine Grows.set ?_ (by first | omega | (simp; done) | (simp; omega)) _)))).mono ?_; rintro e w' ⟨rfl, hg⟩; (first | obtain ⟨x, rfl⟩ := Grows.later2 hg | obtain ⟨x, rfl⟩ := Grows.later hg); clear hg))
    go_ret
    exact ⟨rfl, (by repeat (first | exact Grows.refl _ | refine Grows.now ?_ _ | refine Grows.new ?_ _ | refine Grows.drewN ?_ _ | refine Grows.drew ?_ | assumption | (refine Grows.set ?_ (by first | omega | (simp; done) | (simp; omega)) _)))⟩
  | true =>
    have HI := hide (fun k (hk : k < n) => edges_in2 he (k := k) (by rw [HL.out]; exact hk))
    have HB := hide (fun k (hk : k ≤ n) => wtK_bd he k (by rw [HL.out]; exact hk))
    rw [he] at C1
    have H1 := hide C1
    clear C1 he
    go_enter Try.func134, Try.ntmps134
    go_wp2_with (first | (go_at_call 135; refine (H1.out _ (by repeat (first | exact Grows.refl _ | refine Grows.now ?_ _ | refine Grows.new ?_ _ | refine Grows.drewN ?_ _ | refine Grows.drew ?_ | assumption | (refine Grows.set ?_ (by first | omega | (simp; done) | (simp; omega)) _)))).mono ?_; rintro e w' ⟨rfl, hg⟩; obtain ⟨x, rfl⟩ := hg.later; clear hg) | (at_make; refine wp_make1 elemU64 rfl _ _ rfl x.now (Grows.refl _) (n + 1) rfl rfl (by omega) (by omega) (by omega) ?_; intro g0 y0 hg0 hown0; have HO0 := hide hown0; clear hown0))
    go_loopw [18] (fun i wr => ∃ k : Nat, k ≤ n ∧ i = .int .i64 (k : Int) ∧ ∃ y : Later x.now, wr = y.now ∧ Own y.now x.now.heap.size 37 1 (some ⟨g0, 0, none⟩) (n + 1) (n + 1) ((ofL E l (n + 1) k).map (.int .u64))) (fun i _ => n - (intOf i).toNat)
    case atStart => exact ⟨0, by omega, by go_num, y0, rfl, by rw [ofL_start]; exact HO0.out⟩
    case round =>
      obtain ⟨k, hk, rfl, y, rfl, hown⟩ := hrel
      have HO := hide hown
      clear hown
      by_cases hend : n ≤ k
      · have hkm : k = n := by omega
        subst hkm
        have hr := HO.out.rd
        rw [ofL_end] at hr
        have HRd := hide hr
        clear hr
        go_wp2
        go_ret
        exact ⟨g0, k + 1, by rw [HL.out]; rfl, by rw [HL.out]; exact HRd.out, (by repeat (first | exact Grows.refl _ | refine Grows.now ?_ _ | refine Grows.new ?_ _ | refine Grows.drewN ?_ _ | refine Grows.drew ?_ | assumption | (refine Grows.set ?_ (by first | omega | (simp; done) | (simp; omega)) _)))⟩
      · obtain ⟨b, off, rfl, hc⟩ := HS.out.intsH (by omega)
        have c1 := hc k (by omega)
        obtain ⟨i0, i1, i2⟩ := HI.out k (by omega)
        have hw := right_weight i0 i2
        rw [HE.out] at i2
        obtain ⟨b2, off2, rfl, hc2⟩ := HR.out.edgesH (by omega)
        obtain ⟨c2, c3, c4⟩ := hc2 (gi l k).toNat i2
        obtain ⟨b0, b1⟩ := HB.out k (by omega)
        have HN := hide (wtK_succ E l k)
        have HX := hide (ofL_next E l (n + 1) k)
        obtain ⟨g, hg, hgB, hcs⟩ := HO.out.at (by omega)
        injection hg with hg
        injection hg with hg
        subst hg
        have m1 := hcs k _ (by rw [List.getElem?_map, ofL_at E l (by omega) (Nat.le_refl k)]; rfl)
        obtain ⟨u, hu⟩ : ∃ u, ((ofL E l (n + 1) k).map (Value.int .u64))[k + 1]? = some u := ⟨_, List.getElem?_eq_getElem (by rw [List.length_map, ofL_len]; omega)⟩
        have m2 := hcs (k + 1) _ hu
        clear hc hc2 i0 hcs hu
        generalize wtK E l k = a at *
        generalize (ge E (gi l k).toNat).w = v at *
        generalize hq : gi l k = q at *
        obtain ⟨q, rfl⟩ := Int.eq_ofNat_of_zero_le i1
        simp only [Int.toNat_natCast] at i2 c2 c3 c4
        go_wp2_with fail
        go_region
        go_wp2
        refine ⟨⟨k + 1, by omega, by go_num, ⟨_, (y.grows.set (p := ⟨g0, k + 1, none⟩) hgB (.int .u64 (a + v))).drew⟩, rfl, ?_⟩, by simp [intOf]; omega⟩
        rw [← HX.out, HN.out]
        exact (HO.out.set rfl (by omega) (k + 1) (.int .u64 (a + v))).grows ((Grows.refl _).drew)
set_option maxRecDepth 20000 in
set_option maxHeartbeats 2000000 in
theorem pWeight (N : Int) (A : Option Addr) (m c : Nat) (E : List Edg) (B : Option Addr) (n d : Nat) (l : List Int) (w : World) (h : Rd w A 3 m (esCells E)) (hm : m ≤ 1000000) (h' : Rd w B 1 n (l.map (.int .i64))) (hn : n ≤ 1000000) :
    Calls Try.prog 97 #[.agg #[.int .i64 N, .slice A m c], .slice B n d] w fun e w' => e = .returned (.tuple #[.int .u64 (if edgesB N E l then wtK E l l.length else 0), .bool (edgesB N E l)]) ∧ Grows w w' := by
  have hnil := fun (w : World) (a : Option Addr) (n c n' c' : Nat) => Lib.run_eql_slice_nil (P := Try.prog) w 36 37 a n c n' c' Try.underlying36
  have HL := hide (show l.length = n by simpa using h'.len)
  have H1 := hide (fun (W : World) (g : Grows w W) => pOffsets N A m c E B n d l W (h.grows g) hm (h'.grows g) hn)
  clear h h'
  cases he : edgesB N E l with
  | false =>
    rw [he] at H1
    clear he
    go_enter Try.func97, Try.ntmps97
    go_wp2_with (go_at_call 134; refine (H1.out _ (by repeat (first | exact Grows.refl _ | refine Grows.now ?_ _ | refine Grows.new ?_ _ | refine Grows.drewN ?_ _ | refine Grows.drew ?_ | assumption | (refine Grows.set ?_ (by first | omega | (simp; done) | (simp; omega)) _)))).mono ?_; rintro e w' ⟨rfl, hg⟩; obtain ⟨x, rfl⟩ := hg.later; clear hg)
    go_ret2
    exact ⟨rfl, (by repeat (first | exact Grows.refl _ | refine Grows.now ?_ _ | refine Grows.new ?_ _ | refine Grows.drewN ?_ _ | refine Grows.drew ?_ | assumption | (refine Grows.set ?_ (by first | omega | (simp; done) | (simp; omega)) _)))⟩
  | true =>
    rw [he] at H1
    clear he
    go_enter Try.func97, Try.ntmps97
    go_wp2_with (go_at_call 134; refine (H1.out _ (by repeat (first | exact Grows.refl _ | refine Grows.now ?_ _ | refine Grows.new ?_ _ | refine Grows.drewN ?_ _ | refine Grows.drew ?_ | assumption | (refine Grows.set ?_ (by first | omega | (simp; done) | (simp; omega)) _)))).mono ?_; rintro e w' ⟨g0, c0, rfl, hr, hg⟩; obtain ⟨x, rfl⟩ := hg.later; rw [HL.out] at hr; rw [HL.out]; obtain ⟨b, off, hb, hc⟩ := hr.intsH (by omega); injection hb with hb; injection hb with hb1 hb2; subst hb1; subst hb2; have c1 := hc n (by omega); rw [show gi ((List.range (n + 1)).map (wtK E l)) n = wtK E l n by simp [gi]] at c1; simp only [Nat.zero_add] at c1; clear hg hc hr)
    go_ret2
    exact ⟨by rw [HL.out]; rfl, (by repeat (first | exact Grows.refl _ | refine Grows.now ?_ _ | refine Grows.new ?_ _ | refine Grows.drewN ?_ _ | refine Grows.drew ?_ | assumption | (refine Grows.set ?_ (by first | omega | (simp; done) | (simp; omega)) _)))⟩
end Go.Proofs.Ytpnncadglhlclaa
