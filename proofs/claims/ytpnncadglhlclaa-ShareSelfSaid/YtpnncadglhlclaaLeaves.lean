/- Contracts: at which places a row leaves others, by the program. -/
import Derived.Test.YtpnncadglhlclaaRowsB
import Derived.Test.YtpnncadglhlclaaShare
import Derived.Test.YtpnncadglhlclaaOwn3
namespace Go.Proofs.Ytpnncadglhlclaa
open Go Go.RowKit Go.Maps
/-- A guarded operation whose guard lets it by. -/
theorem wpList_want {P : Program} {ops : Array Oper} {rest : List Oper} {o : Oper} {a : Act} {Q : Exit → Act → World → Prop} {w : World} (hw : Region.wanted o (yielded ops a.tmps) = true) (h : wpList P ops Q ({ o with guard := none } :: rest) a w) : wpList P ops Q (o :: rest) a w := by
  unfold wpList at h ⊢
  rw [hw]
  exact h
set_option maxRecDepth 20000 in
set_option maxHeartbeats 1000000 in
theorem indexM (A : Option Addr) (n c : Nat) (vs : List Value) (k : FuncId) (cap : Array Value) (p : Nat → Bool) (w : World) (h : Rd w A 1 n vs) (hn : n ≤ 1000000) (hk : ∀ args W, (callFunc k args).run Try.prog W = .ok (.enter k args) W) (h1 : ∀ v ∈ vs, ∃ b, v = .map b)
    (hf : ∀ W, Grows w W → ∀ j v, vs[j]? = some v → Calls Try.prog k (#[v] ++ cap) W fun x w' => x = .returned (.bool (p j)) ∧ Grows W w') :
    Calls Try.prog 130 #[.slice A n c, .func (.func k) #[] cap] w fun e w' => e = .returned (.int .i64 (firstI p (List.range n))) ∧ Grows w w' := by
  have HL := hide h.len
  have HR := hide h
  have HF := hide hf
  have HV := hide h1
  clear h hf h1
  go_enter Try.func130, Try.ntmps130
  go_wp2
  go_loopw [8] (fun i wr => ∃ k : Nat, k ≤ n ∧ i = .int .i64 (k : Int) ∧ (∃ x : Later w, wr = x.now) ∧ ∀ j, j < k → p j = false) (fun i _ => n - (intOf i).toNat)
  case atStart => exact ⟨0, by omega, by go_num, ⟨⟨w, Grows.refl w⟩, rfl⟩, fun j h1 => by omega⟩
  case round =>
    obtain ⟨q, hq, rfl, ⟨x, rfl⟩, hall⟩ := hrel
    have HA := hide hall
    clear hall
    by_cases hend : n ≤ q
    · go_wp2
      go_ret
      refine ⟨ret_int ?_, (by repeat (first | exact Grows.refl _ | refine Grows.now ?_ _ | refine Grows.new ?_ _ | refine Grows.drewN ?_ _ | refine Grows.drew ?_ | assumption | (refine Grows.set ?_ (by first | omega | (simp; done) | (simp; omega)) _)))⟩
      rw [firstI_none]
      intro e he
      exact HA.out e (by have := List.mem_range.1 he; omega)
    · obtain ⟨b, off, rfl, hc⟩ := HR.out.at_ (by omega)
      obtain ⟨v, hv⟩ : ∃ v, vs[q]? = some v := ⟨_, List.getElem?_eq_getElem (by rw [HL.out]; omega)⟩
      have c1 := Holds.mk (hc q v hv)
      obtain ⟨b', rfl⟩ := HV.out v (List.mem_of_getElem? hv)
      have HC := hide (fun W g => HF.out W g q _ hv)
      clear hc hv
      go_wp2_with fail
      refine (HC.out _ (by repeat (first | exact Grows.refl _ | refine Grows.now ?_ _ | refine Grows.new ?_ _ | refine Grows.drewN ?_ _ | refine Grows.drew ?_ | assumption | (refine Grows.set ?_ (by first | omega | (simp; done) | (simp; omega)) _)))).mono ?_; rintro e w' ⟨rfl, hg⟩; obtain ⟨x1, rfl⟩ := Grows.later2 hg; clear hg
      cases hp : p q with
      | true =>
        have HW : Hid (firstI p (List.range n) = q) := firstI_at p 0 (List.range n) q (by simp; omega) (fun j hj => by rw [List.getD_eq_getElem?_getD, List.getElem?_range (by omega)]; exact HA.out j hj) (by rw [List.getD_eq_getElem?_getD, List.getElem?_range (by omega)]; exact hp)
        clear hp
        go_wp2
        go_ret
        exact ⟨ret_int HW.out.symm, (by repeat (first | exact Grows.refl _ | refine Grows.now ?_ _ | refine Grows.new ?_ _ | refine Grows.drewN ?_ _ | refine Grows.drew ?_ | assumption | (refine Grows.set ?_ (by first | omega | (simp; done) | (simp; omega)) _)))⟩
      | false =>
        have HP := hide hp
        clear hp
        go_wp2
        go_roundw
        case measure => simp [intOf]; omega
        case rel =>
          refine ⟨q + 1, by omega, by go_num, ⟨_, rfl⟩, fun j h1 => ?_⟩
          by_cases hj : j = q
          · rw [hj]; exact HP.out
          · exact HA.out j (by omega)
set_option maxHeartbeats 1000000 in
theorem containsM (A : Option Addr) (n c : Nat) (vs : List Value) (k : FuncId) (cap : Array Value) (p : Nat → Bool) (w : World) (h : Rd w A 1 n vs) (hn : n ≤ 1000000) (hk : ∀ args W, (callFunc k args).run Try.prog W = .ok (.enter k args) W) (h1 : ∀ v ∈ vs, ∃ b, v = .map b)
    (hf : ∀ W, Grows w W → ∀ j v, vs[j]? = some v → Calls Try.prog k (#[v] ++ cap) W fun x w' => x = .returned (.bool (p j)) ∧ Grows W w') :
    Calls Try.prog 94 #[.slice A n c, .func (.func k) #[] cap] w fun e w' => e = .returned (.bool ((List.range n).any p)) ∧ Grows w w' := by
  have HC := hide (indexM A n c vs k cap p w h hn hk h1 hf)
  have HV := hide (firstI_any p (List.range n))
  clear h hf hk h1
  go_enter Try.func94, Try.ntmps94
  go_wp2_with (first | (go_at_call 130; refine (HC.out).mono ?_; rintro e w' ⟨rfl, hg⟩; (first | obtain ⟨x, rfl⟩ := Grows.later2 hg | obtain ⟨x, rfl⟩ := Grows.later hg); clear hg))
  all_goals go_ret
  all_goals exact ⟨ret_bool (by rw [← HV.out]), (by repeat (first | exact Grows.refl _ | refine Grows.now ?_ _ | refine Grows.new ?_ _ | refine Grows.drewN ?_ _ | refine Grows.drew ?_ | assumption | (refine Grows.set ?_ (by first | omega | (simp; done) | (simp; omega)) _)))⟩
/-- Does the row leave this one at place k? -/
def lvO (l : List Int) (k : Nat) (o : List Int) : Bool := !decide (gi l k ∈ o) && (decide (k = 0) || decide (gi l (k - 1) ∈ o))
def lvB (l : List Int) (R : List Row) (k : Nat) : Bool := (List.range R.length).any fun j => lvO l k (gr R j).xs
/-- The places at which a row leaves others. -/
def lvK (l : List Int) (R : List Row) : Nat → List Int
  | 0 => []
  | k + 1 => if lvB l R k then lvK l R k ++ [(k : Int)] else lvK l R k
theorem lvK_succ (l : List Int) (R : List Row) (k : Nat) : lvK l R (k + 1) = if lvB l R k then lvK l R k ++ [(k : Int)] else lvK l R k := rfl
theorem lvK_len (l : List Int) (R : List Row) (k : Nat) : (lvK l R k).length ≤ k := by
  induction k with
  | zero => simp [lvK]
  | succ k ih =>
    rw [lvK_succ]
    split
    · rw [List.length_append]; simp; omega
    · omega
theorem cntF_pos (l : List Int) (z : Int) : decide (0 < (cntF l z).getD 0) = decide (z ∈ l) := by
  have h := cntF_zero l z
  have h2 := (cntF_le l z).1
  by_cases hz : z ∈ l
  · rw [decide_eq_true hz] at h ⊢
    have : ¬ (cntF l z).getD 0 = 0 := by simpa using h
    exact decide_eq_true (by omega)
  · rw [decide_eq_false hz] at h ⊢
    have : (cntF l z).getD 0 = 0 := by simpa using h
    rw [this]; rfl
set_option maxRecDepth 20000 in
set_option maxHeartbeats 1000000 in
theorem shLeaves1 (b n s : Nat) (o l : List Int) (k : Nat) (g1 g2 g3 : Addr) (A : Option Addr) (m c : Nat) (w : World) (hmap : MapII w b n s (cntF o)) (c1 : Holds w g1 (.int .i64 (gi l k))) (c2 : Holds w g2 (.int .i64 (k : Int))) (c3 : Holds w g3 (.slice A m c)) (h : Rd w A 1 m (l.map (.int .i64))) (hk : k < m) (hm : m ≤ 1000000) (hw : ∀ j, j < m → I64 (gi l j)) :
    Calls Try.prog 93 #[.map (some b), .pointer (some g1), .pointer (some g2), .pointer (some g3)] w fun e w' => e = .returned (.bool (lvO l k o)) ∧ Grows w w' := by
  have HM := hide hmap
  have w1 := hw k hk
  have HZ := hide (cntF_zero o (gi l k))
  have HD : lvO l k o = (!decide (gi l k ∈ o) && (decide (k = 0) || decide (gi l (k - 1) ∈ o))) := rfl
  rw [HD]
  clear hmap HD
  cases hin : decide (gi l k ∈ o) with
  | true =>
    have hz : ((cntF o (gi l k)).getD 0 == 0) = false := by rw [HZ.out, hin]; rfl
    clear hin h hw
    go_enter Try.func93, Try.ntmps93
    go_wp2_with (at_lookup; refine wp_mapGet rfl _ _ rfl b n s _ rfl HM.out _ rfl w1 ?_)
    go_ret
    exact ⟨rfl, (by repeat (first | exact Grows.refl _ | refine Grows.now ?_ _ | refine Grows.new ?_ _ | refine Grows.drewN ?_ _ | refine Grows.drew ?_ | assumption | (refine Grows.set ?_ (by first | omega | (simp; done) | (simp; omega)) _)))⟩
  | false =>
    have hz : ((cntF o (gi l k)).getD 0 == 0) = true := by rw [HZ.out, hin]; rfl
    clear hin
    rcases Nat.eq_zero_or_pos k with hk0 | hk0
    · subst hk0
      clear h hw
      go_enter Try.func93, Try.ntmps93
      go_wp2_with (at_lookup; refine wp_mapGet rfl _ _ rfl b n s _ rfl HM.out _ rfl w1 ?_)
      go_ret
      exact ⟨rfl, (by repeat (first | exact Grows.refl _ | refine Grows.now ?_ _ | refine Grows.new ?_ _ | refine Grows.drewN ?_ _ | refine Grows.drew ?_ | assumption | (refine Grows.set ?_ (by first | omega | (simp; done) | (simp; omega)) _)))⟩
    · obtain ⟨k, rfl⟩ : ∃ j, k = j + 1 := ⟨k - 1, by omega⟩
      obtain ⟨b2, off, rfl, hc⟩ := h.intsH (by omega)
      have c4 := hc k (by omega)
      have w2 := hw k (by omega)
      have HP := hide (cntF_pos o (gi l k))
      rw [Nat.add_sub_cancel]
      clear h hw hc
      generalize gi l (k + 1) = u at *
      generalize gi l k = v at *
      have hk1 : decide (k + 1 = 0) = false := by simp
      rw [hk1]
      simp only [Int.natCast_add, Int.natCast_one] at c2
      go_enter Try.func93, Try.ntmps93
      go_wp2_with (at_lookup; first | refine wp_mapGet rfl _ _ rfl b n s _ rfl HM.out u rfl w1 ?_ | (refine wpList_want ((wanted_of rfl rfl rfl).trans rfl) ?_; refine wp_mapGet rfl _ _ rfl b n s _ rfl HM.out v rfl w2 ?_))
      go_ret
      exact ⟨ret_bool (by rw [HP.out, show ((k : Int) + 1 == 0) = false from beq_eq_false_iff_ne.2 (by omega)]; simp), (by repeat (first | exact Grows.refl _ | refine Grows.now ?_ _ | refine Grows.new ?_ _ | refine Grows.drewN ?_ _ | refine Grows.drew ?_ | assumption | (refine Grows.set ?_ (by first | omega | (simp; done) | (simp; omega)) _)))⟩
theorem elemMap : Elem 141 118 1 := by
  have h : (Try.prog.info? 118).map (fun i => (i.zero, i.size, i.bytes)) = some (some (.map none), 1, 8) := by kernel_rfl
  obtain ⟨i, hi, hz, hs, hb⟩ := info_parts h
  exact ⟨Try.underlying141, ⟨i, _, 8, hi, hz, hs, hb, rfl, by omega⟩, by omega⟩
/-- What is handed back: a slice of numbers. -/
def GiveI (w : World) (l : List Int) (e : Ending) (w' : World) : Prop := ∃ A c, e = .returned (.slice A l.length c) ∧ Rd w' A 1 l.length (l.map (.int .i64)) ∧ Grows w w'
/-- A list of maps, each the set of its row. -/
def SetsOk (w : World) (R : List Row) (bs : List Nat) : Prop := ∀ j b, bs[j]? = some b → ∃ n s, MapII w b n s (cntF (gr R j).xs)
theorem SetsOk.grows {w w' : World} {R : List Row} {bs : List Nat} (h : SetsOk w R bs) (hg : Grows w w') : SetsOk w' R bs := fun j b hb => by
  obtain ⟨n, s, hm⟩ := h j b hb
  exact ⟨n, s, hm.grows hg⟩
set_option maxRecDepth 20000 in
set_option maxHeartbeats 4000000 in
theorem shLeaves (G : Value) (N : Int) (AG : Option Addr) (mg cg : Nat) (hG : G = .agg #[.int .i64 N, .slice AG mg cg]) (A : Option Addr) (n c : Nat) (l : List Int) (B : Option Addr) (m d : Nat) (R : List Row) (w : World) (h : Rd w A 1 n (l.map (.int .i64))) (hn : n ≤ 100000) (hw : ∀ j, j < n → I64 (gi l j))
    (hr : Rd w B 1 m (R.map rowVal)) (hm : m ≤ 100000) (hR : ∀ k, k < m → Rd w (gr R k).A 1 (gr R k).n ((gr R k).xs.map (.int .i64)) ∧ (gr R k).n ≤ 1000000 ∧ ∀ j, j < (gr R k).n → I64 (gi (gr R k).xs j)) :
    Calls Try.prog 54 #[G, .slice A n c, .slice B m d] w (GiveI w (lvK l R n)) := by
  subst hG
  have HL := hide (show l.length = n by simpa using h.len)
  have HM := hide (show R.length = m by simpa using hr.len)
  have HA := hide h
  have HB := hide hr
  have HR := hide hR
  have HI := hide hw
  have HK1 := hide (fun args W => run_callGo (P := Try.prog) Try.func93 (by kernel_rfl) (by kernel_rfl) args W)
  clear h hr hR hw
  go_enter Try.func54, Try.ntmps54
  go_wp2_with fail
  obtain ⟨W0, hW0⟩ : ∃ W0, W0 = ((w.alloc (.cells #[.int .i64 N, .slice AG mg cg] 24)).alloc (.cells #[.slice A n c] 31)) := ⟨_, rfl⟩
  have hg0 : Grows w W0 := by rw [hW0]; exact (by repeat (first | exact Grows.refl _ | refine Grows.now ?_ _ | refine Grows.new ?_ _ | refine Grows.drewN ?_ _ | refine Grows.drew ?_ | assumption | (refine Grows.set ?_ (by first | omega | (simp; done) | (simp; omega)) _)))
  have m0 : Mine W0 ⟨w.heap.size + 1, 0, none⟩ (.slice A n c) := by rw [hW0]; exact inferInstance
  rw [← hW0]
  clear hW0
  have HA := hide (HA.out.grows hg0)
  have HB := hide (HB.out.grows hg0)
  go_loopw [15, 7] (fun i u wr => ∃ k : Nat, k ≤ m ∧ i = .int .i64 (k : Int) ∧ ∃ y : Later W0, wr = y.now ∧ ∃ A' c' bs, u = .slice A' k c' ∧ Own y.now W0.heap.size 118 1 A' k c' ((bs : List Nat).map fun b => .map (some b)) ∧ Hid (SetsOk y.now R bs)) (fun i _ _ => m - (intOf i).toNat)
  case atStart => exact ⟨0, by omega, by go_num, ⟨_, Grows.refl _⟩, rfl, none, 0, [], rfl, Own.nil _ _ _ _, fun j b hb => by simp at hb⟩
  case round =>
    obtain ⟨k, hk, rfl, y, rfl, A', c', bs, rfl, hown, HS⟩ := hrel
    have HO := hide hown
    clear hown
    by_cases hend : m ≤ k
    · have hkm : k = m := by omega
      subst hkm
      have HBL := hide (show bs.length = k by have := HO.out.len; simpa using this)
      go_wp2_with fail
      go_loopw [27, 6] (fun i u wr => ∃ q : Nat, q ≤ n ∧ i = .int .i64 (q : Int) ∧ ∃ z : Later y.now, wr = z.now ∧ ∃ A2 c2 s2, u = .slice A2 s2 c2 ∧ Hid (s2 = (lvK l R q).length) ∧ Own z.now y.now.heap.size 3 1 A2 s2 c2 ((lvK l R q).map (.int .i64))) (fun i _ _ => n - (intOf i).toNat)
      case atStart => exact ⟨0, by omega, by go_num, ⟨_, Grows.refl _⟩, rfl, none, 0, 0, rfl, rfl, Own.nil _ _ _ _⟩
      case round =>
        obtain ⟨q, hq, rfl, z, rfl, A2, c2, s2, rfl, HS2, hown2⟩ := hrel
        have HO2 := hide hown2
        clear hown2
        by_cases hend2 : n ≤ q
        · have hqn : q = n := by omega
          subst hqn
          go_wp2
          go_ret
          refine ⟨A2, c2, by rw [← HS2.out]; rfl, by rw [← HS2.out]; exact HO2.out.rd, (by repeat (first | exact Grows.refl _ | refine Grows.now ?_ _ | refine Grows.new ?_ _ | refine Grows.drewN ?_ _ | refine Grows.drew ?_ | assumption | (refine Grows.set ?_ (by first | omega | (simp; done) | (simp; omega)) _)))⟩
        · obtain ⟨b, off, rfl, hc⟩ := HA.out.intsH (by omega)
          have c1 := hc q (by omega)
          clear hc
          have HN := hide (lvK_succ l R q)
          have hs2 : s2 ≤ 1000000 := by have := HS2.out; have := lvK_len l R q; omega
          have HC := hide (fun (W : World) (g : Grows y.now W) (g1 g2 : Addr) (k1 : Holds W g1 (.int .i64 (gi l q))) (k2 : Holds W g2 (.int .i64 (q : Int))) => containsM A' k c' (bs.map fun b => .map (some b)) 93 #[.pointer (some g1), .pointer (some g2), .pointer (some ⟨w.heap.size + 1, 0, none⟩)] (fun j => lvO l q (gr R j).xs) W (HO.out.rd.grows g) (by omega) HK1.out (by intro v hv; obtain ⟨b, _, rfl⟩ := List.mem_map.1 hv; exact ⟨_, rfl⟩)
            (fun W' g' j v hv => by
              rw [List.getElem?_map] at hv
              obtain ⟨b', hb', rfl⟩ := Option.map_eq_some_iff.1 hv
              obtain ⟨n1, s1, hm1⟩ := HS.out j b' hb'
              exact shLeaves1 b' n1 s1 _ l q g1 g2 _ _ n c W' ((hm1.grows g).grows g') ⟨g'.keeps k1.cell⟩ ⟨g'.keeps k2.cell⟩ ⟨(y.grows.trans (g.trans g')).keeps m0.cell⟩ (HA.out.grows (y.grows.trans (g.trans g'))) (by omega) (by omega) HI.out))
          have HV : Hid ((List.range k).any (fun j => lvO l q (gr R j).xs) = lvB l R q) := by show _ = _; unfold lvB; rw [HM.out]
          rw [HV.out] at HC
          generalize gi l q = v at *
          cases hb : lvB l R q with
          | false =>
            have HN2 : Hid (lvK l R (q + 1) = lvK l R q) := by show _ = _; rw [HN.out, hb]; rfl
            rw [hb] at HC
            clear hb
            go_wp2_with (go_at_call 94; refine (HC.out _ (by repeat (first | exact Grows.refl _ | refine Grows.now ?_ _ | refine Grows.new ?_ _ | refine Grows.drewN ?_ _ | refine Grows.drew ?_ | assumption | (refine Grows.set ?_ (by first | omega | (simp; done) | (simp; omega)) _))) _ _ inferInstance inferInstance).mono ?_; rintro e w' ⟨rfl, hg⟩; obtain ⟨x1, rfl⟩ := hg.later; clear hg)
            exact ⟨⟨q + 1, by omega, by go_num, ⟨x1.now, (by repeat (first | exact Grows.refl _ | refine Grows.now ?_ _ | refine Grows.new ?_ _ | refine Grows.drewN ?_ _ | refine Grows.drew ?_ | assumption | (refine Grows.set ?_ (by first | omega | (simp; done) | (simp; omega)) _)))⟩, rfl, A2, c2, s2, rfl, by rw [HN2.out]; exact HS2, by rw [HN2.out]; exact (show Own x1.now _ _ _ _ _ _ _ from HO2.out.grows (by repeat (first | exact Grows.refl _ | refine Grows.now ?_ _ | refine Grows.new ?_ _ | refine Grows.drewN ?_ _ | refine Grows.drew ?_ | assumption | (refine Grows.set ?_ (by first | omega | (simp; done) | (simp; omega)) _))))⟩, by simp [intOf]; omega⟩
          | true =>
            have HN2 : Hid (lvK l R (q + 1) = lvK l R q ++ [(q : Int)]) := by show _ = _; rw [HN.out, hb]; rfl
            rw [hb] at HC
            clear hb
            go_wp2_with (first
              | (go_at_call 94; refine (HC.out _ (by repeat (first | exact Grows.refl _ | refine Grows.now ?_ _ | refine Grows.new ?_ _ | refine Grows.drewN ?_ _ | refine Grows.drew ?_ | assumption | (refine Grows.set ?_ (by first | omega | (simp; done) | (simp; omega)) _))) _ _ inferInstance inferInstance).mono ?_; rintro e w' ⟨rfl, hg⟩; obtain ⟨x1, rfl⟩ := hg.later; clear hg)
              | (at_builtin; refine wp_app1 elemInt rfl _ _ rfl _ (by repeat (first | exact Grows.refl _ | refine Grows.now ?_ _ | refine Grows.new ?_ _ | refine Grows.drewN ?_ _ | refine Grows.drew ?_ | assumption | (refine Grows.set ?_ (by first | omega | (simp; done) | (simp; omega)) _))) s2 c2 A2 _ rfl (HO2.out.grows (by repeat (first | exact Grows.refl _ | refine Grows.now ?_ _ | refine Grows.new ?_ _ | refine Grows.drewN ?_ _ | refine Grows.drew ?_ | assumption | (refine Grows.set ?_ (by first | omega | (simp; done) | (simp; omega)) _)))) _ _ _ rfl inferInstance rfl (by omega) ?_; intro A3 c3 y3 hown3; have HO3 := hide hown3; clear hown3))
            exact ⟨⟨q + 1, by omega, by go_num, y3, rfl, A3, c3, s2 + 1, rfl, by rw [HN2.out]; show s2 + 1 = _; rw [List.length_append, HS2.out]; rfl, by rw [HN2.out, List.map_append]; exact HO3.out⟩, by simp [intOf]; omega⟩
    · obtain ⟨b, off, rfl, hc⟩ := HB.out.rows (by omega)
      have c1 := Holds.mk (hc k (by omega))
      obtain ⟨r1, r2, r3⟩ := HR.out k (by omega)
      have C1 := hide (fun (W : World) (g : Grows w W) => shSet (gr R k).A (gr R k).n (gr R k).c (gr R k).xs W (r1.grows g) r2 r3)
      have hbl0 : bs.length = k := by have := HO.out.len; simpa using this
      have HBL := hide hbl0
      clear hbl0
      clear hc r1 r2 r3
      go_wp2_with (first
        | (go_at_call 92; refine (C1.out _ (by repeat (first | exact Grows.refl _ | refine Grows.now ?_ _ | refine Grows.new ?_ _ | refine Grows.drewN ?_ _ | refine Grows.drew ?_ | assumption | (refine Grows.set ?_ (by first | omega | (simp; done) | (simp; omega)) _)))).mono ?_; rintro e w' ⟨b1, s1, rfl, hb1, hmap1, hg1⟩; obtain ⟨x1, rfl⟩ := hg1.later; have HM1 := hide hmap1; clear hmap1 hg1)
        | (at_builtin; refine wp_app1M elemMap rfl _ _ rfl _ (by repeat (first | exact Grows.refl _ | refine Grows.now ?_ _ | refine Grows.new ?_ _ | refine Grows.drewN ?_ _ | refine Grows.drew ?_ | assumption | (refine Grows.set ?_ (by first | omega | (simp; done) | (simp; omega)) _))) k c' A' _ rfl (HO.out.grows (by repeat (first | exact Grows.refl _ | refine Grows.now ?_ _ | refine Grows.new ?_ _ | refine Grows.drewN ?_ _ | refine Grows.drew ?_ | assumption | (refine Grows.set ?_ (by first | omega | (simp; done) | (simp; omega)) _)))) _ _ _ rfl inferInstance rfl (by omega) ?_; intro A3 c3 y3 hown3 hgr3; have HO3 := hide hown3; have HG3 := hide hgr3; clear hown3 hgr3))
      refine ⟨⟨k + 1, by omega, by go_num, y3, rfl, A3, c3, bs ++ [b1], rfl, by rw [List.map_append]; exact HO3.out, ?_⟩, by simp [intOf]; omega⟩
      intro j b hj
      by_cases hjk : j < bs.length
      · rw [List.getElem?_append_left hjk] at hj
        obtain ⟨n1, s2, hm1⟩ := HS.out j b hj
        exact ⟨n1, s2, (hm1.grows (by repeat (first | exact Grows.refl _ | refine Grows.now ?_ _ | refine Grows.new ?_ _ | refine Grows.drewN ?_ _ | refine Grows.drew ?_ | assumption | (refine Grows.set ?_ (by first | omega | (simp; done) | (simp; omega)) _)))).row (HO.out.grows (by repeat (first | exact Grows.refl _ | refine Grows.now ?_ _ | refine Grows.new ?_ _ | refine Grows.drewN ?_ _ | refine Grows.drew ?_ | assumption | (refine Grows.set ?_ (by first | omega | (simp; done) | (simp; omega)) _)))) HG3.out⟩
      · have hlt := (List.getElem?_eq_some_iff.1 hj).1
        simp at hlt
        have e : j = bs.length := by omega
        subst e
        simp at hj
        subst hj
        rw [HBL.out]
        exact ⟨_, s1, (HM1.out.grows (by repeat (first | exact Grows.refl _ | refine Grows.now ?_ _ | refine Grows.new ?_ _ | refine Grows.drewN ?_ _ | refine Grows.drew ?_ | assumption | (refine Grows.set ?_ (by first | omega | (simp; done) | (simp; omega)) _)))).row (HO.out.grows (by repeat (first | exact Grows.refl _ | refine Grows.now ?_ _ | refine Grows.new ?_ _ | refine Grows.drewN ?_ _ | refine Grows.drew ?_ | assumption | (refine Grows.set ?_ (by first | omega | (simp; done) | (simp; omega)) _)))) HG3.out⟩
/-- Does the row leave one of the first j of the others at place k? -/
def lvJ (l : List Int) (R : List Row) (k j : Nat) : Bool := (List.range j).any fun j => lvO l k (gr R j).xs
theorem lvJ_succ (l : List Int) (R : List Row) (k j : Nat) : lvJ l R k (j + 1) = (lvJ l R k j || lvO l k (gr R j).xs) := by unfold lvJ; rw [List.range_succ, List.any_append]; simp
set_option maxRecDepth 20000 in
set_option maxHeartbeats 4000000 in
theorem r26Leaves (A : Option Addr) (n c : Nat) (l : List Int) (B : Option Addr) (m d : Nat) (R : List Row) (w : World) (h : Rd w A 1 n (l.map (.int .i64))) (hn : n ≤ 100000)
    (hr : Rd w B 1 m (R.map rowVal)) (hm : m ≤ 100000) (hR : ∀ k, k < m → Rd w (gr R k).A 1 (gr R k).n ((gr R k).xs.map (.int .i64)) ∧ (gr R k).n ≤ 1000000) :
    Calls Try.prog 55 #[.slice A n c, .slice B m d] w (GiveI w (lvK l R n)) := by
  have HL := hide (show l.length = n by simpa using h.len)
  have HM := hide (show R.length = m by simpa using hr.len)
  have HA := hide h
  have HB := hide hr
  have HR := hide hR
  clear h hr hR
  go_enter Try.func55, Try.ntmps55
  go_wp2_with fail
  go_loopw [6, 5] (fun i u wr => ∃ q : Nat, q ≤ n ∧ i = .int .i64 (q : Int) ∧ ∃ z : Later w, wr = z.now ∧ ∃ A2 c2 s2, u = .slice A2 s2 c2 ∧ Hid (s2 = (lvK l R q).length) ∧ Own z.now w.heap.size 3 1 A2 s2 c2 ((lvK l R q).map (.int .i64))) (fun i _ _ => n - (intOf i).toNat)
  case atStart => exact ⟨0, by omega, by go_num, ⟨_, Grows.refl _⟩, rfl, none, 0, 0, rfl, rfl, Own.nil _ _ _ _⟩
  case round =>
    obtain ⟨q, hq, rfl, z, rfl, A2, c2, s2, rfl, HS2, hown2⟩ := hrel
    have HO2 := hide hown2
    clear hown2
    by_cases hend2 : n ≤ q
    · have hqn : q = n := by omega
      subst hqn
      go_wp2
      go_ret
      refine ⟨A2, c2, by rw [← HS2.out]; rfl, by rw [← HS2.out]; exact HO2.out.rd, (by repeat (first | exact Grows.refl _ | refine Grows.now ?_ _ | refine Grows.new ?_ _ | refine Grows.drewN ?_ _ | refine Grows.drew ?_ | assumption | (refine Grows.set ?_ (by first | omega | (simp; done) | (simp; omega)) _)))⟩
    · obtain ⟨b, off, rfl, hc⟩ := HA.out.intsH (by omega)
      have c1 := hc q (by omega)
      have HC := hide hc
      clear hc
      have HN := hide (lvK_succ l R q)
      have hs2 : s2 ≤ 1000000 := by have := HS2.out; have := lvK_len l R q; omega
      have HVM : Hid (lvJ l R q m = lvB l R q) := by show _ = _; unfold lvJ lvB; rw [HM.out]
      have hdq : decide (q < n) = true := decide_eq_true (by omega)
      go_wp2_with fail
      go_loopw [8, 7] (fun i u wr => ∃ j : Nat, j ≤ m ∧ i = .int .i64 (j : Int) ∧ u = .bool (lvJ l R q j) ∧ ∃ y : Later z.now, wr = y.now) (fun i _ _ => m - (intOf i).toNat)
      case atStart => exact ⟨0, by omega, by go_num, rfl, ⟨_, Grows.refl _⟩, rfl⟩
      case round =>
        obtain ⟨j, hj, rfl, rfl, y, rfl⟩ := hrel
        by_cases hend : m ≤ j
        · have hjm : j = m := by omega
          subst hjm
          rw [HVM.out]
          cases hb : lvB l R q with
          | false =>
            have HN2 : Hid (lvK l R (q + 1) = lvK l R q) := by show _ = _; rw [HN.out, hb]; rfl
            clear hb
            go_wp2
            exact ⟨⟨q + 1, by omega, by go_num, ⟨y.now, (by repeat (first | exact Grows.refl _ | refine Grows.now ?_ _ | refine Grows.new ?_ _ | refine Grows.drewN ?_ _ | refine Grows.drew ?_ | assumption | (refine Grows.set ?_ (by first | omega | (simp; done) | (simp; omega)) _)))⟩, rfl, A2, c2, s2, rfl, by rw [HN2.out]; exact HS2, by rw [HN2.out]; exact (show Own y.now _ _ _ _ _ _ _ from HO2.out.grows (by repeat (first | exact Grows.refl _ | refine Grows.now ?_ _ | refine Grows.new ?_ _ | refine Grows.drewN ?_ _ | refine Grows.drew ?_ | assumption | (refine Grows.set ?_ (by first | omega | (simp; done) | (simp; omega)) _))))⟩, by simp [intOf]; omega⟩
          | true =>
            have HN2 : Hid (lvK l R (q + 1) = lvK l R q ++ [(q : Int)]) := by show _ = _; rw [HN.out, hb]; rfl
            clear hb
            go_wp2_with (at_builtin; refine wp_app1 elemInt rfl _ _ rfl _ (by repeat (first | exact Grows.refl _ | refine Grows.now ?_ _ | refine Grows.new ?_ _ | refine Grows.drewN ?_ _ | refine Grows.drew ?_ | assumption | (refine Grows.set ?_ (by first | omega | (simp; done) | (simp; omega)) _))) s2 c2 A2 _ rfl (HO2.out.grows (by repeat (first | exact Grows.refl _ | refine Grows.now ?_ _ | refine Grows.new ?_ _ | refine Grows.drewN ?_ _ | refine Grows.drew ?_ | assumption | (refine Grows.set ?_ (by first | omega | (simp; done) | (simp; omega)) _)))) _ _ _ rfl inferInstance rfl (by omega) ?_; intro A3 c3 y3 hown3; have HO3 := hide hown3; clear hown3)
            exact ⟨⟨q + 1, by omega, by go_num, y3, rfl, A3, c3, s2 + 1, rfl, by rw [HN2.out]; show s2 + 1 = _; rw [List.length_append, HS2.out]; rfl, by rw [HN2.out, List.map_append]; exact HO3.out⟩, by simp [intOf]; omega⟩
        · obtain ⟨b2, off2, rfl, hc2⟩ := HB.out.rows (by omega)
          have c2' := Holds.mk (hc2 j (by omega))
          obtain ⟨r1, r2⟩ := HR.out j (by omega)
          have H1 := hide (fun (W : World) (g : Grows w W) v => r1Has (gr R j).A (gr R j).n (gr R j).c (gr R j).xs v W (r1.grows g) r2)
          have HJ := hide (lvJ_succ l R q j)
          have HD : Hid (lvO l q (gr R j).xs = (!decide (gi l q ∈ (gr R j).xs) && (decide (q = 0) || decide (gi l (q - 1) ∈ (gr R j).xs)))) := rfl
          clear hc2 r1 r2
          have C1 := fun W (g : Grows w W) => H1.out W g (gi l q)
          cases hin : decide (gi l q ∈ (gr R j).xs) with
          | true =>
            have HJ2 : Hid (lvJ l R q (j + 1) = lvJ l R q j) := by show _ = _; rw [HJ.out, HD.out, hin]; simp
            rw [hin] at C1
            have H2 := hide C1
            clear C1 hin
            generalize lvJ l R q j = bj at *
            go_wp2_with fail
            ((first | refine wp_region_gen (by kernel_rfl) (by kernel_rfl) ?_); (repeat' (first | (refine gLex_val0 rfl (by kernel_rfl) (fun K hK => ?_); (go_simp; (try (simp only [↓IntWalk.iteOmega]; try go_simp)); (try simp (disch := omega) only [IntWalk.i64_in]); (try simp (disch := omega) only [IntWalk.u64_in]); first | (refine hK _ ?_; clear hK K) | (apply Exists.intro; refine ⟨fun x => ?_, hK _ ?_⟩; (first | (go_at_call 79; exact calls_same (H2.out _ (by repeat (first | exact Grows.refl _ | refine Grows.now ?_ _ | refine Grows.new ?_ _ | refine Grows.drewN ?_ _ | refine Grows.drew ?_ | assumption | (refine Grows.set ?_ (by first | omega | (simp; done) | (simp; omega)) _)))))); clear hK K))) | (refine gLex_undef rfl rfl rfl (by kernel_rfl) (fun K hK => ?_); go_simp; refine hK _ ?_; clear hK K) | (refine gLex_ask rfl rfl rfl ?_; first | (apply gAsk_yes; kernel_rfl; intro K hK; (go_simp; (try (simp only [↓IntWalk.iteOmega]; try go_simp)); (try simp (disch := omega) only [IntWalk.i64_in]); (try simp (disch := omega) only [IntWalk.u64_in]); first | (refine hK _ ?_; clear hK K) | (apply Exists.intro; refine ⟨fun x => ?_, hK _ ?_⟩; (first | (go_at_call 79; exact calls_same (H2.out _ (by repeat (first | exact Grows.refl _ | refine Grows.now ?_ _ | refine Grows.new ?_ _ | refine Grows.drewN ?_ _ | refine Grows.drew ?_ | assumption | (refine Grows.set ?_ (by first | omega | (simp; done) | (simp; omega)) _)))))); clear hK K))) | ((first | apply gAsk_no1 | apply gAsk_no2); kernel_rfl; intro K hK; simp [go_sem]; refine hK _ ?_; clear hK K) | (apply gAsk_part; kernel_rfl; all_goals (intro h K hK; (try simp only [Bool.not_true] at h); (try simp only [Bool.not_false] at h); (try simp only [decide_eq_true_eq] at h); (try simp only [decide_eq_false_iff_not] at h); first | (exfalso; first | contradiction | omega) | (go_simp; (try (simp only [↓IntWalk.iteOmega]; try go_simp)); (try simp (disch := omega) only [IntWalk.i64_in]); (try simp (disch := omega) only [IntWalk.u64_in]); first | (refine hK _ ?_; clear hK K) | (apply Exists.intro; refine ⟨fun x => ?_, hK _ ?_⟩; (first | (go_at_call 79; exact calls_same (H2.out _ (by repeat (first | exact Grows.refl _ | refine Grows.now ?_ _ | refine Grows.new ?_ _ | refine Grows.drewN ?_ _ | refine Grows.drew ?_ | assumption | (refine Grows.set ?_ (by first | omega | (simp; done) | (simp; omega)) _)))))); clear hK K))))))); all_goals ((apply gLex_end); intro x))
            go_wp2
            exact ⟨⟨j + 1, by omega, by go_num, by rw [HJ2.out], Grows.later (by repeat (first | exact Grows.refl _ | refine Grows.now ?_ _ | refine Grows.new ?_ _ | refine Grows.drewN ?_ _ | refine Grows.drew ?_ | assumption | (refine Grows.set ?_ (by first | omega | (simp; done) | (simp; omega)) _)))⟩, by simp [intOf]; omega⟩
          | false =>
            rw [hin] at C1
            have H2 := hide C1
            rcases Nat.eq_zero_or_pos q with hq0 | hq0
            · have HJ2 : Hid (lvJ l R q (j + 1) = true) := by show _ = _; rw [HJ.out, HD.out, hin]; simp [hq0]
              have hq1 : ((q : Int) == 0) = true := beq_iff_eq.2 (by omega)
              clear C1 hin hq0
              go_wp2_with fail
              ((first | refine wp_region_gen (by kernel_rfl) (by kernel_rfl) ?_); (repeat' (first | (refine gLex_val0 rfl (by kernel_rfl) (fun K hK => ?_); (go_simp; (try (simp only [↓IntWalk.iteOmega]; try go_simp)); (try simp (disch := omega) only [IntWalk.i64_in]); (try simp (disch := omega) only [IntWalk.u64_in]); first | (refine hK _ ?_; clear hK K) | (apply Exists.intro; refine ⟨fun x => ?_, hK _ ?_⟩; (first | (go_at_call 79; exact calls_same (H2.out _ (by repeat (first | exact Grows.refl _ | refine Grows.now ?_ _ | refine Grows.new ?_ _ | refine Grows.drewN ?_ _ | refine Grows.drew ?_ | assumption | (refine Grows.set ?_ (by first | omega | (simp; done) | (simp; omega)) _)))))); clear hK K))) | (refine gLex_undef rfl rfl rfl (by kernel_rfl) (fun K hK => ?_); go_simp; refine hK _ ?_; clear hK K) | (refine gLex_ask rfl rfl rfl ?_; first | (apply gAsk_yes; kernel_rfl; intro K hK; (go_simp; (try (simp only [↓IntWalk.iteOmega]; try go_simp)); (try simp (disch := omega) only [IntWalk.i64_in]); (try simp (disch := omega) only [IntWalk.u64_in]); first | (refine hK _ ?_; clear hK K) | (apply Exists.intro; refine ⟨fun x => ?_, hK _ ?_⟩; (first | (go_at_call 79; exact calls_same (H2.out _ (by repeat (first | exact Grows.refl _ | refine Grows.now ?_ _ | refine Grows.new ?_ _ | refine Grows.drewN ?_ _ | refine Grows.drew ?_ | assumption | (refine Grows.set ?_ (by first | omega | (simp; done) | (simp; omega)) _)))))); clear hK K))) | ((first | apply gAsk_no1 | apply gAsk_no2); kernel_rfl; intro K hK; simp [go_sem]; refine hK _ ?_; clear hK K) | (apply gAsk_part; kernel_rfl; all_goals (intro h K hK; (try simp only [Bool.not_true] at h); (try simp only [Bool.not_false] at h); (try simp only [decide_eq_true_eq] at h); (try simp only [decide_eq_false_iff_not] at h); first | (exfalso; first | contradiction | omega) | (go_simp; (try (simp only [↓IntWalk.iteOmega]; try go_simp)); (try simp (disch := omega) only [IntWalk.i64_in]); (try simp (disch := omega) only [IntWalk.u64_in]); first | (refine hK _ ?_; clear hK K) | (apply Exists.intro; refine ⟨fun x => ?_, hK _ ?_⟩; (first | (go_at_call 79; exact calls_same (H2.out _ (by repeat (first | exact Grows.refl _ | refine Grows.now ?_ _ | refine Grows.new ?_ _ | refine Grows.drewN ?_ _ | refine Grows.drew ?_ | assumption | (refine Grows.set ?_ (by first | omega | (simp; done) | (simp; omega)) _)))))); clear hK K))))))); all_goals ((apply gLex_end); intro x))
              go_wp2
              exact ⟨⟨j + 1, by omega, by go_num, by rw [HJ2.out], Grows.later (by repeat (first | exact Grows.refl _ | refine Grows.now ?_ _ | refine Grows.new ?_ _ | refine Grows.drewN ?_ _ | refine Grows.drew ?_ | assumption | (refine Grows.set ?_ (by first | omega | (simp; done) | (simp; omega)) _)))⟩, by simp [intOf]; omega⟩
            · obtain ⟨q, rfl⟩ : ∃ q', q = q' + 1 := ⟨q - 1, by omega⟩
              have hqz : decide (q + 1 = 0) = false := by simp
              have cq := HC.out q (by omega)
              have C2 := fun W (g : Grows w W) => H1.out W g (gi l q)
              rw [Nat.add_sub_cancel] at HD
              cases hin2 : decide (gi l q ∈ (gr R j).xs) with
              | true =>
                have HJ2 : Hid (lvJ l R (q + 1) (j + 1) = true) := by show _ = _; rw [HJ.out, HD.out, hin, hin2]; simp
                rw [hin2] at C2
                have H3 := hide C2
                clear C1 C2 hin hin2 hqz
                simp only [Int.natCast_add, Int.natCast_one]
                generalize gi l (q + 1) = v at *
                generalize gi l q = u at *
                go_wp2_with fail
                ((first | refine wp_region_gen (by kernel_rfl) (by kernel_rfl) ?_); (repeat' (first | (refine gLex_val0 rfl (by kernel_rfl) (fun K hK => ?_); (go_simp; (try (simp only [↓IntWalk.iteOmega]; try go_simp)); (try simp (disch := omega) only [IntWalk.i64_in]); (try simp (disch := omega) only [IntWalk.u64_in]); first | (refine hK _ ?_; clear hK K) | (apply Exists.intro; refine ⟨fun x => ?_, hK _ ?_⟩; (first | (go_at_call 79; first | with_reducible exact calls_same (H2.out _ (by repeat (first | exact Grows.refl _ | refine Grows.now ?_ _ | refine Grows.new ?_ _ | refine Grows.drewN ?_ _ | refine Grows.drew ?_ | assumption | (refine Grows.set ?_ (by first | omega | (simp; done) | (simp; omega)) _)))) | with_reducible exact calls_same (H3.out _ (by repeat (first | exact Grows.refl _ | refine Grows.now ?_ _ | refine Grows.new ?_ _ | refine Grows.drewN ?_ _ | refine Grows.drew ?_ | assumption | (refine Grows.set ?_ (by first | omega | (simp; done) | (simp; omega)) _)))))); clear hK K))) | (refine gLex_undef rfl rfl rfl (by kernel_rfl) (fun K hK => ?_); go_simp; refine hK _ ?_; clear hK K) | (refine gLex_ask rfl rfl rfl ?_; first | (apply gAsk_yes; kernel_rfl; intro K hK; (go_simp; (try (simp only [↓IntWalk.iteOmega]; try go_simp)); (try simp (disch := omega) only [IntWalk.i64_in]); (try simp (disch := omega) only [IntWalk.u64_in]); first | (refine hK _ ?_; clear hK K) | (apply Exists.intro; refine ⟨fun x => ?_, hK _ ?_⟩; (first | (go_at_call 79; first | with_reducible exact calls_same (H2.out _ (by repeat (first | exact Grows.refl _ | refine Grows.now ?_ _ | refine Grows.new ?_ _ | refine Grows.drewN ?_ _ | refine Grows.drew ?_ | assumption | (refine Grows.set ?_ (by first | omega | (simp; done) | (simp; omega)) _)))) | with_reducible exact calls_same (H3.out _ (by repeat (first | exact Grows.refl _ | refine Grows.now ?_ _ | refine Grows.new ?_ _ | refine Grows.drewN ?_ _ | refine Grows.drew ?_ | assumption | (refine Grows.set ?_ (by first | omega | (simp; done) | (simp; omega)) _)))))); clear hK K))) | ((first | apply gAsk_no1 | apply gAsk_no2); kernel_rfl; intro K hK; simp [go_sem]; refine hK _ ?_; clear hK K) | (apply gAsk_part; kernel_rfl; all_goals (intro h K hK; (try simp only [Bool.not_true] at h); (try simp only [Bool.not_false] at h); (try simp only [decide_eq_true_eq] at h); (try simp only [decide_eq_false_iff_not] at h); first | (exfalso; first | contradiction | omega) | (go_simp; (try (simp only [↓IntWalk.iteOmega]; try go_simp)); (try simp (disch := omega) only [IntWalk.i64_in]); (try simp (disch := omega) only [IntWalk.u64_in]); first | (refine hK _ ?_; clear hK K) | (apply Exists.intro; refine ⟨fun x => ?_, hK _ ?_⟩; (first | (go_at_call 79; first | with_reducible exact calls_same (H2.out _ (by repeat (first | exact Grows.refl _ | refine Grows.now ?_ _ | refine Grows.new ?_ _ | refine Grows.drewN ?_ _ | refine Grows.drew ?_ | assumption | (refine Grows.set ?_ (by first | omega | (simp; done) | (simp; omega)) _)))) | with_reducible exact calls_same (H3.out _ (by repeat (first | exact Grows.refl _ | refine Grows.now ?_ _ | refine Grows.new ?_ _ | refine Grows.drewN ?_ _ | refine Grows.drew ?_ | assumption | (refine Grows.set ?_ (by first | omega | (simp; done) | (simp; omega)) _)))))); clear hK K))))))); all_goals ((apply gLex_end); intro x))
                go_wp2
                exact ⟨⟨j + 1, by omega, by go_num, by rw [HJ2.out], Grows.later (by repeat (first | exact Grows.refl _ | refine Grows.now ?_ _ | refine Grows.new ?_ _ | refine Grows.drewN ?_ _ | refine Grows.drew ?_ | assumption | (refine Grows.set ?_ (by first | omega | (simp; done) | (simp; omega)) _)))⟩, by simp [intOf]; omega⟩
              | false =>
                have HJ2 : Hid (lvJ l R (q + 1) (j + 1) = lvJ l R (q + 1) j) := by show _ = _; rw [HJ.out, HD.out, hin, hin2]; simp
                rw [hin2] at C2
                have H3 := hide C2
                clear C1 C2 hin hin2 hqz
                generalize lvJ l R (q + 1) j = bj at *
                simp only [Int.natCast_add, Int.natCast_one]
                generalize gi l (q + 1) = v at *
                generalize gi l q = u at *
                go_wp2_with fail
                ((first | refine wp_region_gen (by kernel_rfl) (by kernel_rfl) ?_); (repeat' (first | (refine gLex_val0 rfl (by kernel_rfl) (fun K hK => ?_); (go_simp; (try (simp only [↓IntWalk.iteOmega]; try go_simp)); (try simp (disch := omega) only [IntWalk.i64_in]); (try simp (disch := omega) only [IntWalk.u64_in]); first | (refine hK _ ?_; clear hK K) | (apply Exists.intro; refine ⟨fun x => ?_, hK _ ?_⟩; (first | (go_at_call 79; first | with_reducible exact calls_same (H2.out _ (by repeat (first | exact Grows.refl _ | refine Grows.now ?_ _ | refine Grows.new ?_ _ | refine Grows.drewN ?_ _ | refine Grows.drew ?_ | assumption | (refine Grows.set ?_ (by first | omega | (simp; done) | (simp; omega)) _)))) | with_reducible exact calls_same (H3.out _ (by repeat (first | exact Grows.refl _ | refine Grows.now ?_ _ | refine Grows.new ?_ _ | refine Grows.drewN ?_ _ | refine Grows.drew ?_ | assumption | (refine Grows.set ?_ (by first | omega | (simp; done) | (simp; omega)) _)))))); clear hK K))) | (refine gLex_undef rfl rfl rfl (by kernel_rfl) (fun K hK => ?_); go_simp; refine hK _ ?_; clear hK K) | (refine gLex_ask rfl rfl rfl ?_; first | (apply gAsk_yes; kernel_rfl; intro K hK; (go_simp; (try (simp only [↓IntWalk.iteOmega]; try go_simp)); (try simp (disch := omega) only [IntWalk.i64_in]); (try simp (disch := omega) only [IntWalk.u64_in]); first | (refine hK _ ?_; clear hK K) | (apply Exists.intro; refine ⟨fun x => ?_, hK _ ?_⟩; (first | (go_at_call 79; first | with_reducible exact calls_same (H2.out _ (by repeat (first | exact Grows.refl _ | refine Grows.now ?_ _ | refine Grows.new ?_ _ | refine Grows.drewN ?_ _ | refine Grows.drew ?_ | assumption | (refine Grows.set ?_ (by first | omega | (simp; done) | (simp; omega)) _)))) | with_reducible exact calls_same (H3.out _ (by repeat (first | exact Grows.refl _ | refine Grows.now ?_ _ | refine Grows.new ?_ _ | refine Grows.drewN ?_ _ | refine Grows.drew ?_ | assumption | (refine Grows.set ?_ (by first | omega | (simp; done) | (simp; omega)) _)))))); clear hK K))) | ((first | apply gAsk_no1 | apply gAsk_no2); kernel_rfl; intro K hK; simp [go_sem]; refine hK _ ?_; clear hK K) | (apply gAsk_part; kernel_rfl; all_goals (intro h K hK; (try simp only [Bool.not_true] at h); (try simp only [Bool.not_false] at h); (try simp only [decide_eq_true_eq] at h); (try simp only [decide_eq_false_iff_not] at h); first | (exfalso; first | contradiction | omega) | (go_simp; (try (simp only [↓IntWalk.iteOmega]; try go_simp)); (try simp (disch := omega) only [IntWalk.i64_in]); (try simp (disch := omega) only [IntWalk.u64_in]); first | (refine hK _ ?_; clear hK K) | (apply Exists.intro; refine ⟨fun x => ?_, hK _ ?_⟩; (first | (go_at_call 79; first | with_reducible exact calls_same (H2.out _ (by repeat (first | exact Grows.refl _ | refine Grows.now ?_ _ | refine Grows.new ?_ _ | refine Grows.drewN ?_ _ | refine Grows.drew ?_ | assumption | (refine Grows.set ?_ (by first | omega | (simp; done) | (simp; omega)) _)))) | with_reducible exact calls_same (H3.out _ (by repeat (first | exact Grows.refl _ | refine Grows.now ?_ _ | refine Grows.new ?_ _ | refine Grows.drewN ?_ _ | refine Grows.drew ?_ | assumption | (refine Grows.set ?_ (by first | omega | (simp; done) | (simp; omega)) _)))))); clear hK K))))))); all_goals ((apply gLex_end); intro x))
                go_wp2
                exact ⟨⟨j + 1, by omega, by go_num, by rw [HJ2.out], Grows.later (by repeat (first | exact Grows.refl _ | refine Grows.now ?_ _ | refine Grows.new ?_ _ | refine Grows.drewN ?_ _ | refine Grows.drew ?_ | assumption | (refine Grows.set ?_ (by first | omega | (simp; done) | (simp; omega)) _)))⟩, by simp [intOf]; omega⟩
end Go.Proofs.Ytpnncadglhlclaa
