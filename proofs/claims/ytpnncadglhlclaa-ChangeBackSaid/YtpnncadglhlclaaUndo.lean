/- Contract: what undoes changes, by the program. -/
import Derived.Test.YtpnncadglhlclaaRefUndo
import Derived.Test.YtpnncadglhlclaaKeys
namespace Go.Proofs.Ytpnncadglhlclaa
open Go Go.RowKit Go.Maps
/-- What the map reads as behind k changes. -/
def wasF (E : List Edg) (L : List Chg) (k : Nat) (z : Int) : Option Int := if hasK L z k then some (ge E z.toNat).w else none
theorem wasF_succ (E : List Edg) (L : List Chg) (k : Nat) : (fun z => if z = (gc L k).e then some (ge E (gc L k).e.toNat).w else wasF E L k z) = wasF E L (k + 1) := by
  funext z
  unfold wasF
  show _ = if (hasK L z k || decide ((gc L k).e = z)) then _ else _
  by_cases h : z = (gc L k).e
  · subst h
    simp
  · rw [if_neg h, decide_eq_false (fun e => h e.symm), Bool.or_false]
theorem hasK_in {L : List Chg} {m n : Nat} (h : ∀ j, j < m → 0 ≤ (gc L j).e ∧ (gc L j).e < n) {z : Int} : ∀ k, k ≤ m → hasK L z k = true → 0 ≤ z ∧ z < n
  | 0, _, h0 => by cases h0
  | k + 1, hk, h0 => by
    have h0 : (hasK L z k || decide ((gc L k).e = z)) = true := h0
    rcases Bool.or_eq_true _ _ ▸ h0 with h1 | h1
    · exact hasK_in h k (by omega) h1
    · have := of_decide_eq_true h1
      have := h k (by omega)
      omega
/-- The edges that change, in order. -/
def ksL (L : List Chg) : Nat → List Int
  | 0 => []
  | k + 1 => if hasK L k L.length then ksL L k ++ [(k : Int)] else ksL L k
theorem ksL_mem (L : List Chg) (x : Int) : ∀ k, x ∈ ksL L k ↔ 0 ≤ x ∧ x < k ∧ hasK L x L.length = true
  | 0 => by simp [ksL]; omega
  | k + 1 => by
    have ih := ksL_mem L x k
    show x ∈ (if _ then _ else _ : List Int) ↔ _
    split
    · rename_i h
      rw [List.mem_append, ih, List.mem_singleton]
      constructor
      · rintro (h1 | h1)
        · exact ⟨h1.1, by omega, h1.2.2⟩
        · subst h1; exact ⟨by omega, by omega, h⟩
      · rintro ⟨h1, h2, h3⟩
        by_cases e : x = k
        · exact .inr e
        · exact .inl ⟨h1, by omega, h3⟩
    · rename_i h
      rw [ih]
      constructor
      · exact fun h1 => ⟨h1.1, by omega, h1.2.2⟩
      · rintro ⟨h1, h2, h3⟩
        refine ⟨h1, ?_, h3⟩
        by_cases e : x = k
        · subst e; exact absurd h3 h
        · omega
theorem ksL_lt (L : List Chg) : ∀ k, (ksL L k).Pairwise (· < ·)
  | 0 => List.Pairwise.nil
  | k + 1 => by
    show (if _ then _ else _ : List Int).Pairwise _
    split
    · rw [List.pairwise_append]
      refine ⟨ksL_lt L k, List.pairwise_singleton _ _, fun a ha b hb => ?_⟩
      have := (ksL_mem L a k).1 ha
      simp at hb
      omega
    · exact ksL_lt L k
theorem ksL_un (E : List Edg) (L : List Chg) : ∀ k, (ksL L k).map (fun e => (⟨e, (ge E e.toNat).w⟩ : Chg)) = unL E L k
  | 0 => rfl
  | k + 1 => by
    show (if _ then _ else _ : List Int).map _ = (if _ then _ else _ : List Chg)
    split
    · rw [List.map_append, ksL_un E L k]; simp
    · exact ksL_un E L k
theorem ksL_len (L : List Chg) (k : Nat) : (ksL L k).length ≤ k := by
  induction k with
  | zero => simp [ksL]
  | succ k ih =>
    show (if _ then _ else _ : List Int).length ≤ _
    split
    · rw [List.length_append]; simp; omega
    · omega
theorem bdK_bad {m : Nat} : ∀ {L : List Chg}, bdK m L < L.length → chB m (gc L (bdK m L)) = false
  | [], h => by simp at h
  | c :: L, h => by
    cases h0 : chB m c with
    | false =>
      have e : bdK m (c :: L) = 0 := by unfold bdK; rw [List.takeWhile_cons, h0]; rfl
      rw [e]; exact h0
    | true =>
      have e : bdK m (c :: L) = bdK m L + 1 := by unfold bdK; rw [List.takeWhile_cons, h0]; rfl
      rw [e] at h ⊢
      simp only [List.length_cons] at h
      exact bdK_bad (m := m) (L := L) (by omega)
theorem apF_zero {N : Int} {E : List Edg} {L : List Chg} (h : apF N E L = 0) : rightF N E = 0 ∧ ∀ j, j < L.length → chB E.length (gc L j) = true := by
  unfold apF at h
  split at h
  · rename_i hr
    split at h
    · rename_i hb
      have := bdK_bad hb
      rw [chB_at.2 h] at this
      cases this
    · rename_i hb
      have := bdK_le E.length L
      exact ⟨hr, fun j hj => bdK_ok (by omega)⟩
  · omega
set_option maxRecDepth 20000 in
set_option maxHeartbeats 8000000 in
theorem chUndo (N : Int) (A : Option Addr) (n c : Nat) (E : List Edg) (B : Option Addr) (m d : Nat) (L : List Chg) (w : World) (h : Rd w A 3 n (esCells E)) (hn : n ≤ 1000000) (hc : Rd w B 2 m (csCells L)) (hm : m ≤ 1000000) (hE : ∀ k, k < n → U64 (ge E k).w) :
    Calls Try.prog 64 #[.agg #[.int .i64 N, .slice A n c], .slice B m d] w (GiveU w (unV N E L) (apF N E L)) := by
  have C1 := hide (fun W (g : Grows w W) => chApply N A n c E B m d L W (h.grows g) hn (hc.grows g) hm)
  have HV : Hid (unV N E L = if apF N E L = 0 then unL E L E.length else []) := rfl
  have HL := hide h.elen
  have HLm := hide hc.clen
  have HA := hide h
  have HC := hide hc
  have HEW := hide hE
  clear h hc hE
  by_cases hf : apF N E L = 0
  · have HJ := hide (apF_zero hf).2
    rw [HLm.out, HL.out] at HJ
    rw [HV.out, if_pos hf, hf]
    rw [hf] at C1
    clear HV hf
    generalize apN N E L = N4 at *
    generalize apL N E L = E4 at *
    generalize apI N E L = i4 at *
    have hmm := @run_makeMap Try.prog
    go_enter Try.func64, Try.ntmps64
    go_wp2_with (go_at_call 61; refine (C1.out _ (by repeat (first | exact Grows.refl _ | refine Grows.now ?_ _ | refine Grows.new ?_ _ | refine Grows.drewN ?_ _ | refine Grows.drew ?_ | assumption | (refine Grows.set ?_ (by first | omega | (simp; done) | (simp; omega)) _)))).mono ?_; rintro e w' ⟨A4, c4, rfl, _, hg⟩; obtain ⟨x1, rfl⟩ := hg.later; clear hg)
    have hg1 : Grows w x1.now := (by repeat (first | exact Grows.refl _ | refine Grows.now ?_ _ | refine Grows.new ?_ _ | refine Grows.drewN ?_ _ | refine Grows.drew ?_ | assumption | (refine Grows.set ?_ (by first | omega | (simp; done) | (simp; omega)) _)))
    have b0 : Mine x1.now ⟨w.heap.size, 0, none⟩ (.int .i64 N) := inferInstance
    have b1 : Mine x1.now ⟨w.heap.size, 1, none⟩ (.slice A n c) := inferInstance
    go_loopw [27] (fun i wr => ∃ k : Nat, k ≤ m ∧ i = .int .i64 (k : Int) ∧ ∃ y : Later x1.now, wr = y.now ∧ ∃ s, s ≤ k ∧ Hid (MapIU y.now (x1.now.heap.size + 1) k s (wasF E L k))) (fun i _ => m - (Go.RowKit.intOf i).toNat)
    case atStart =>
      refine ⟨0, by omega, by go_num, ⟨(x1.now.alloc _).alloc _, (by repeat (first | exact Grows.refl _ | refine Grows.now ?_ _ | refine Grows.new ?_ _ | refine Grows.drewN ?_ _ | refine Grows.drew ?_ | assumption | (refine Grows.set ?_ (by first | omega | (simp; done) | (simp; omega)) _)))⟩, rfl, 0, Nat.le_refl _, ?_⟩
      have := MapIU.made (x1.now.alloc (Obj.cells #[Value.int IntKind.i64 N4, Value.slice A4 E4.length c4] 24))
      rw [World.size_alloc] at this
      exact this
    case round =>
      obtain ⟨k, hk, rfl, y, rfl, s, hs, HM⟩ := hrel
      by_cases hend : m ≤ k
      · have hkm : k = m := by omega
        subst hkm
        have HS := hide (mSorted (x1.now.heap.size + 1) k s (wasF E L k) (ksL L n) y.now HM.out (ksL_lt L n) (fun x => by
          rw [ksL_mem, HLm.out]
          unfold wasF
          constructor
          · rintro ⟨_, _, h3⟩
            rw [h3]; rfl
          · intro h3
            have h4 : hasK L x k = true := by
              cases h5 : hasK L x k with
              | true => rfl
              | false => rw [h5] at h3; simp at h3
            have := hasK_in (L := L) (m := k) (n := n) (fun j hj => by have := chB_spec (HJ.out j hj); omega) k (Nat.le_refl _) h4
            exact ⟨this.1, this.2, h4⟩) (by omega))
        have HKM := hide (fun q (hq : q < (ksL L n).length) => (ksL_mem L (gi (ksL L n) q) n).1 (gi_mem hq))
        have HKU := hide (ksL_un E L n)
        have hkl := ksL_len L n
        go_wp2_with (first
          | (go_at_call 103; refine (mKeys _ _).mono ?_; rintro e w' ⟨rfl, rfl⟩)
          | (go_at_call 76; refine HS.out.mono ?_; rintro e w' ⟨A5, c5, rfl, hr5, hg5⟩; obtain ⟨x5, rfl⟩ := hg5.later; have HR5 := hide hr5; clear hr5 hg5))
        have hUl : (unL E L n).length = (ksL L n).length := by rw [← HKU.out, List.length_map]
        have HUL := hide hUl
        clear hUl
        go_loopw [46, 4] (fun i u wr => ∃ q : Nat, q ≤ (ksL L n).length ∧ i = .int .i64 (q : Int) ∧ ∃ z : Later x5.now, wr = z.now ∧ ∃ A1 c1, u = .slice A1 q c1 ∧ Own z.now x5.now.heap.size 149 2 A1 q c1 (csCells ((unL E L n).take q))) (fun i _ _ => (ksL L n).length - (Go.RowKit.intOf i).toNat)
        case atStart => exact ⟨0, by omega, by go_num, ⟨_, Grows.refl _⟩, rfl, none, 0, rfl, Own.nil _ _ _ _⟩
        case round =>
          obtain ⟨q, hq, rfl, z, rfl, A1, c1, rfl, hown⟩ := hrel
          have HO := hide hown
          clear hown
          by_cases hend2 : (ksL L n).length ≤ q
          · have hqq : q = (ksL L n).length := by omega
            subst hqq
            go_wp2
            go_ret2
            rw [HL.out]
            have ho := HO.out
            rw [← HUL.out, List.take_length] at ho
            refine ⟨A1, c1, by rw [HUL.out]; rfl, ho.rd, (by repeat (first | exact Grows.refl _ | refine Grows.now ?_ _ | refine Grows.new ?_ _ | refine Grows.drewN ?_ _ | refine Grows.drew ?_ | assumption | (refine Grows.set ?_ (by first | omega | (simp; done) | (simp; omega)) _)))⟩
          · obtain ⟨b5, off5, rfl, hc5⟩ := HR5.out.intsH (by omega)
            have c5' := hc5 q (by omega)
            obtain ⟨k1, k2, k3⟩ := HKM.out q (by omega)
            rw [HLm.out] at k3
            have hw : (wasF E L k (gi (ksL L n) q)).getD 0 = (ge E (gi (ksL L n) q).toNat).w := by unfold wasF; rw [k3]; rfl
            have HN : Hid ((unL E L n).take (q + 1) = (unL E L n).take q ++ [⟨gi (ksL L n) q, (ge E (gi (ksL L n) q).toNat).w⟩]) := by
              show _ = _
              rw [gc_take_succ (by rw [HUL.out]; omega)]
              congr 2
              show (unL E L n).getD q _ = _
              rw [← HKU.out]
              simp [gi, List.getD_eq_getElem?_getD, show q < (ksL L n).length by omega]
            have HW := hide hw
            clear hc5 k3 hw
            generalize (ge E (gi (ksL L n) q).toNat).w = v at *
            generalize hgi : gi (ksL L n) q = e at *
            have wk : I64 e := ⟨by omega, by omega⟩
            go_wp2_with (first
              | (at_lookup; refine wp_mapGetU rfl _ _ rfl (x1.now.heap.size + 1) k s _ rfl (HM.out.grows (by repeat (first | exact Grows.refl _ | refine Grows.now ?_ _ | refine Grows.new ?_ _ | refine Grows.drewN ?_ _ | refine Grows.drew ?_ | assumption | (refine Grows.set ?_ (by first | omega | (simp; done) | (simp; omega)) _)))) e rfl wk ?_; rw [HW.out])
              | (at_builtin; refine wp_appSM elemChg rfl _ _ rfl x5.now (by repeat (first | exact Grows.refl _ | refine Grows.now ?_ _ | refine Grows.new ?_ _ | refine Grows.drewN ?_ _ | refine Grows.drew ?_ | assumption | (refine Grows.set ?_ (by first | omega | (simp; done) | (simp; omega)) _))) q c1 A1 _ rfl (HO.out.grows (by repeat (first | exact Grows.refl _ | refine Grows.now ?_ _ | refine Grows.new ?_ _ | refine Grows.drewN ?_ _ | refine Grows.drew ?_ | assumption | (refine Grows.set ?_ (by first | omega | (simp; done) | (simp; omega)) _)))) _ _ [.int .i64 e, .int .u64 v] rfl rfl (cs_new inferInstance inferInstance) (by intro u hu; simp at hu; rcases hu with rfl | rfl <;> rfl) (by omega) ?_; intro A3 c9 y3 hown3 _; have HO3 := hide hown3; clear hown3))
            refine ⟨⟨q + 1, by omega, by go_num, y3, rfl, A3, c9, rfl, ?_⟩, by simp [Go.RowKit.intOf]; omega⟩
            rw [HN.out, csCells_app]
            exact HO3.out
      · obtain ⟨b, off, rfl, hcc⟩ := HC.out.chgsH (by omega)
        obtain ⟨c2, c3⟩ := hcc k (by omega)
        have c2 := Holds.mk (hg1.keeps c2.cell)
        have c3 := Holds.mk (hg1.keeps c3.cell)
        clear hcc
        have HF := hide (wasF_succ E L k)
        obtain ⟨e1, e2, _, _⟩ := chB_spec (HJ.out k (by omega))
        generalize (gc L k).e = e0 at *
        generalize (gc L k).w = x at *
        obtain ⟨e, rfl⟩ := Int.eq_ofNat_of_zero_le e1
        have hen : e < n := by omega
        obtain ⟨b2, off2, rfl, hce⟩ := HA.out.edgesH (by omega)
        have c5 := Holds.mk (hg1.keeps (hce e hen).2.2.cell)
        have wy := HEW.out e hen
        have wk : I64 (e : Int) := ⟨by omega, by omega⟩
        clear hce
        rw [Int.toNat_natCast] at HF
        generalize (ge E e).w = v at *
        go_wp2_with fail
        (refine wp_region_tail1 10 (by kernel_rfl) (by kernel_rfl) ?_; simp only [List.take_succ_cons, List.take_zero, List.drop_succ_cons, List.drop_zero]; (repeat' (first | (refine gLex_val0 rfl (by kernel_rfl) (fun K hK => ?_); (go_simp; (try (simp only [↓IntWalk.iteOmega]; try go_simp)); (try simp (disch := omega) only [IntWalk.i64_in]); (try simp (disch := omega) only [IntWalk.u64_in]); first | (refine hK _ ?_; clear hK K) | (apply Exists.intro; refine ⟨fun x => ?_, hK _ ?_⟩; (first | fail); clear hK K))) | (refine gLex_undef rfl rfl rfl (by kernel_rfl) (fun K hK => ?_); go_simp; refine hK _ ?_; clear hK K) | (refine gLex_ask rfl rfl rfl ?_; first | (apply gAsk_yes; kernel_rfl; intro K hK; (go_simp; (try (simp only [↓IntWalk.iteOmega]; try go_simp)); (try simp (disch := omega) only [IntWalk.i64_in]); (try simp (disch := omega) only [IntWalk.u64_in]); first | (refine hK _ ?_; clear hK K) | (apply Exists.intro; refine ⟨fun x => ?_, hK _ ?_⟩; (first | fail); clear hK K))) | ((first | apply gAsk_no1 | apply gAsk_no2); kernel_rfl; intro K hK; simp [go_sem]; refine hK _ ?_; clear hK K)))); refine gLex_endT (fun x => ?_))
        go_wp2_with (at_mapUpdate; refine wp_mapPutU rfl _ _ _ rfl (x1.now.heap.size + 1) k s _ rfl (HM.out.grows (by repeat (first | exact Grows.refl _ | refine Grows.now ?_ _ | refine Grows.new ?_ _ | refine Grows.drewN ?_ _ | refine Grows.drew ?_ | assumption | (refine Grows.set ?_ (by first | omega | (simp; done) | (simp; omega)) _)))) (by unfold maxLen; omega) _ _ rfl rfl wk wy ?_; intro w1 hmap1 hgr1)
        obtain ⟨y1, rfl⟩ := (Grows.row (show Grows x1.now x.now from (by repeat (first | exact Grows.refl _ | refine Grows.now ?_ _ | refine Grows.new ?_ _ | refine Grows.drewN ?_ _ | refine Grows.drew ?_ | assumption | (refine Grows.set ?_ (by first | omega | (simp; done) | (simp; omega)) _)))) (b := x1.now.heap.size + 1) (by omega) hgr1).later
        rw [HF.out] at hmap1
        obtain ⟨s2, hs2, hmap2⟩ : ∃ s2, s2 ≤ k + 1 ∧ MapIU y1.now (x1.now.heap.size + 1) (k + 1) s2 (wasF E L (k + 1)) := ⟨_, by split <;> omega, hmap1⟩
        exact ⟨⟨k + 1, by omega, by go_num, y1, rfl, s2, hs2, hmap2⟩, by simp [Go.RowKit.intOf]; omega⟩
  · rw [HV.out, if_neg hf]
    have hd2 : (apF N E L == 0) = false := beq_eq_false_iff_ne.2 hf
    have hd : (apF N E L != 0) = true := bne_iff_ne.2 hf
    clear HV
    generalize apN N E L = N4 at *
    generalize apL N E L = E4 at *
    generalize apI N E L = i4 at *
    generalize apF N E L = f at *
    go_enter Try.func64, Try.ntmps64
    go_wp2_with (go_at_call 61; refine (C1.out _ (by repeat (first | exact Grows.refl _ | refine Grows.now ?_ _ | refine Grows.new ?_ _ | refine Grows.drewN ?_ _ | refine Grows.drew ?_ | assumption | (refine Grows.set ?_ (by first | omega | (simp; done) | (simp; omega)) _)))).mono ?_; rintro e w' ⟨A4, c4, rfl, _, hg⟩; obtain ⟨x1, rfl⟩ := hg.later; clear hg)
    go_ret2
    exact ⟨none, 0, rfl, ⟨by simp [csCells], fun h => absurd h (by simp)⟩, (by repeat (first | exact Grows.refl _ | refine Grows.now ?_ _ | refine Grows.new ?_ _ | refine Grows.drewN ?_ _ | refine Grows.drew ?_ | assumption | (refine Grows.set ?_ (by first | omega | (simp; done) | (simp; omega)) _)))⟩
end Go.Proofs.Ytpnncadglhlclaa
