/- Contract: from each node of a way on, the shortest one that leaves all that were told. -/
import Derived.Test.YtgplpgldhoelcaaGreatQYenWays17
import Derived.Test.YtgplpgldhoelcaaGreatQYenWays18
namespace Go.Proofs.YtgplpgldhoelcaaGreat
open Go Go.RowKit
attribute [local go_sem] Oper.semAt_some
theorem noL_snoc (B : List (List Nat)) (x r : List Nat) (i : Nat) : noL (B ++ [x]) r i = noL B r i ++ (if i < x.length ∧ x.take i = r.take i then [gn x i] else []) := by
  unfold noL
  rw [List.filterMap_append]
  congr 1
  by_cases h : i < x.length ∧ x.take i = r.take i
  · rw [if_pos h]
    simp [h]
  · rw [if_neg h]
    simp [h]
theorem noL_len (B : List (List Nat)) (r : List Nat) (i : Nat) : (noL B r i).length ≤ B.length := List.length_filterMap_le _ _
theorem isW.nd_lt {E : List Edg} {N s t : Nat} {l : List Nat} (hr : rightF (N : Int) E = 0) (hs : s < N) (h : isW E t s l) {k : Nat} (hk : k ≤ l.length) : ndAt E s l k < N := by
  obtain ⟨_, _, _, r4, _⟩ := right_in hr
  rw [Int.toNat_natCast] at r4
  cases k with
  | zero => exact hs
  | succ k =>
    have h1 : k < l.length := by omega
    have h2 := (h.link h1).2
    have : (ndsN E s l)[k + 1]? = some (tN E (gn l k)) := by simp [ndsN, gn, h1]
    have e : ndAt E s l (k + 1) = tN E (gn l k) := by simp [ndAt, gn, this]
    rw [e]
    exact (r4.t _ h2).1
theorem Own.nil2 {w : World} {B n c size : Nat} {e : TypeId} {A : Option Addr} {xs : List Value} (h : Own w B e size A n c xs) (ha : A = none) : n = 0 ∧ c = 0 := by
  rcases h.2 with ⟨h1, h2⟩ | ⟨g', cap, cur, h1, _⟩
  · injection h1 with _ _ h3
    exact ⟨h2, h3⟩
  · rw [ha] at h1
    injection h1 with h1 _ _
    cases h1
def RteS (n f : Nat) (xs : List Value) : Pr := fun u w => ∃ A c, u = .agg #[.slice A n c, .int .u64 (f : Int)] ∧ Own w 0 3 1 A n c xs
def GiveSp (w : World) (b N : Nat) (E : List Edg) (s t : Nat) (Ag : Option Addr) (cg : Nat) (At : Option Addr) (ct : Nat) (rsT : List Rt) (T : List (List Nat)) (Aw : Option Addr) (A : List (List Nat)) (r : List Nat) (e : Ending) (w' : World) : Prop :=
  e = .returned (.tuple #[]) ∧ ∃ Aw' cw' rsW' W', YnAt w' b N E s t Ag cg At ct rsT T Aw' cw' rsW' W' ∧ YL E s t A r r.length W' ∧ Touch (fun k => k = b ∨ ∃ p, Aw = some p ∧ p.block = k) w w' ∧ (∀ p, Aw' = some p → (∃ q, Aw = some q ∧ q.block = p.block) ∨ New w w' p.block)
set_option maxRecDepth 40000 in
set_option maxHeartbeats 16000000 in
theorem yeSpur (b N : Nat) (E : List Edg) (s t : Nat) (Ag : Option Addr) (cg : Nat) (At : Option Addr) (ct : Nat) (rsT : List Rt) (A : List (List Nat)) (r : List Nat) (Aw : Option Addr) (cw : Nat) (rsW : List Rt) (W : List (List Nat)) (Ar : Option Addr) (cr : Nat) (all : List (List Nat)) (w : World)
    (h : YnAt w b N E s t Ag cg At ct rsT (A ++ [r]) Aw cw rsW W) (hy : YL E s t A r 0 W) (hr : rightF (N : Int) E = 0) (hN : N ≤ 60) (hs : s < N) (ht : t < N) (ha : AllR E s t all) (hal : all.length ≤ 10000) (hA : A.length ≤ 10000) (hrow : Own w 0 3 1 Ar r.length cr (nv r)) :
    Calls Tryz.prog 84 #[.pointer (some ⟨b, 0, none⟩), rVal Ar r.length cr (wE E r)] w (GiveSp w b N E s t Ag cg At ct rsT (A ++ [r]) Aw A r) := by
  unfold GiveSp rVal
  have hEl : E.length ≤ 1000000 := by have := (right_in hr).2.2.1; omega
  have hrl : r.length ≤ 4096 := by have h1 := hy.tip.short hr hs; have h2 := (right_in hr).2.1; omega
  have CN := hide (fun (X : World) (g : Grows w X) => pNodesO N Ag E.length cg E s t Ar r.length cr r X (h.gr.rd.grows g) hEl (hrow.rd.grows g) (by omega) hr hs hy.tip.1)
  unfold GiveNd at CN
  have HY := hide h
  have HYL := hide hy
  have HROW := hide hrow
  have HALL := hide ha
  have HR := hide hr
  have hbx := h.box
  generalize hWE : wE E r = fr at *
  have HWE := hide hWE
  clear hWE
  clear h hy hrow ha hr
  go_enter Tryz.func84, Tryz.ntmps84
  go_upto_region 1 with fail
  have a3 : Arr (w.alloc (.cells #[.slice Ar r.length cr, .int .u64 (fr : Int)] 53)) w.heap.size 53 [.slice Ar r.length cr, .int .u64 (fr : Int)] := Arr.make _ _ _
  have hgW : Grows w (w.alloc (.cells #[.slice Ar r.length cr, .int .u64 (fr : Int)] 53)) := (Grows.refl _).new _
  generalize w.alloc (.cells #[.slice Ar r.length cr, .int .u64 (fr : Int)] 53) = W1 at *
  obtain ⟨b3, hb3⟩ : ∃ b3, b3 = w.heap.size := ⟨_, rfl⟩
  have HB3 := hide (show w.heap.size ≤ b3 by omega)
  rw [← hb3] at a3 ⊢
  clear hb3
  obtain ⟨y1, rfl⟩ := hgW.later
  clear hgW
  refine wp_region_gen (by kernel_rfl) (by kernel_rfl) ?_
  (repeat' (first | (refine gLex_val0 rfl (by kernel_rfl) (fun K hK => ?_); (go_simp; (try (simp only [↓IntWalk.iteOmega]; try go_simp)); (try simp (disch := omega) only [IntWalk.i64_in]); (try simp (disch := omega) only [IntWalk.u64_in]); first | (refine hK _ ?_; clear hK K) | (apply Exists.intro; refine ⟨fun x => ?_, hK _ ?_⟩; (first | fail); clear hK K))) | (refine gLex_undef rfl rfl rfl (by kernel_rfl) (fun K hK => ?_); go_simp; refine hK _ ?_; clear hK K) | (refine gLex_ask rfl rfl rfl ?_; first | (apply gAsk_yes; kernel_rfl; intro K hK; (go_simp; (try (simp only [↓IntWalk.iteOmega]; try go_simp)); (try simp (disch := omega) only [IntWalk.i64_in]); (try simp (disch := omega) only [IntWalk.u64_in]); first | (refine hK _ ?_; clear hK K) | (apply Exists.intro; refine ⟨fun x => ?_, hK _ ?_⟩; (first | fail); clear hK K))) | ((first | apply gAsk_no1 | apply gAsk_no2); kernel_rfl; intro K hK; simp [go_sem]; refine hK _ ?_; clear hK K))))
  refine gLex_propG (by kernel_rfl) (by kernel_rfl) rfl (by simp) (OwnP (fun u => .tuple #[u, .bool true]) 0 (r.length + 1) (ndsN E s r)) (OwnP.lasts _ _ _ _) (fun y => by
    go_simp
    refine (CN.out _ GG).mono ?_
    rintro e w' ⟨A1, c1, rfl, ho, hg⟩
    exact ⟨_, rfl, hg, A1, c1, rfl, ho.base (Nat.zero_le _)⟩) ?_
  refine gLex_dep (t0 := 28) (by kernel_rfl) (by kernel_rfl) rfl (by simp) rfl (by simp) (OwnP (fun u => .tuple #[u, .bool true]) 0 (r.length + 1) (ndsN E s r)) (OwnP.lasts _ _ _ _) (fun y u hu => by
    obtain ⟨A1, c1, rfl, ho⟩ := hu
    go_simp
    exact ⟨A1, c1, rfl, ho⟩) ?_
  refine gLex_dep (t0 := 17) (by kernel_rfl) (by kernel_rfl) rfl (by simp) rfl (by simp) (OwnP (fun u => u) 0 (r.length + 1) (ndsN E s r)) (OwnP.lasts _ _ _ _) (fun y u hu => by
    obtain ⟨A1, c1, rfl, ho⟩ := hu
    go_simp
    exact ⟨A1, c1, rfl, ho⟩) ?_
  refine gLex_depV (t0 := 17) (by kernel_rfl) (by kernel_rfl) rfl (by simp) (.bool true) (fun y u hu => by
    obtain ⟨A1, c1, rfl, ho⟩ := hu
    go_simp) ?_
  simp only [Act.put, List.setIfInBounds_toArray, List.set_cons_zero, List.set_cons_succ]
  refine gLex_dep (t0 := 29) (by kernel_rfl) (by kernel_rfl) rfl (by simp) rfl (by simp) (OwnP (fun u => u) 0 (r.length + 1) (ndsN E s r)) (OwnP.lasts _ _ _ _) (fun y u hu => by
    obtain ⟨A1, c1, rfl, ho⟩ := hu
    go_simp
    exact ⟨A1, c1, rfl, ho⟩) ?_
  (repeat' (first | (refine gLex_val0 rfl (by kernel_rfl) (fun K hK => ?_); (go_simp; (try (simp only [↓IntWalk.iteOmega]; try go_simp)); (try simp (disch := omega) only [IntWalk.i64_in]); (try simp (disch := omega) only [IntWalk.u64_in]); first | (refine hK _ ?_; clear hK K) | (apply Exists.intro; refine ⟨fun x => ?_, hK _ ?_⟩; (first | fail); clear hK K))) | (refine gLex_undef rfl rfl rfl (by kernel_rfl) (fun K hK => ?_); go_simp; refine hK _ ?_; clear hK K) | (refine gLex_ask rfl rfl rfl ?_; first | (apply gAsk_yes; kernel_rfl; intro K hK; (go_simp; (try (simp only [↓IntWalk.iteOmega]; try go_simp)); (try simp (disch := omega) only [IntWalk.i64_in]); (try simp (disch := omega) only [IntWalk.u64_in]); first | (refine hK _ ?_; clear hK K) | (apply Exists.intro; refine ⟨fun x => ?_, hK _ ?_⟩; (first | fail); clear hK K))) | ((first | apply gAsk_no1 | apply gAsk_no2); kernel_rfl; intro K hK; simp [go_sem]; refine hK _ ?_; clear hK K))))
  refine gLex_endB (fun y2 => ?_)
  refine AtB.pop rfl (by simp) (fun z1 hz => ?_)
  refine AtB.pop rfl (by simp [Act.put]) (fun z2 _ => ?_)
  refine AtB.pop rfl (by simp [Act.put]) (fun z3 _ => ?_)
  refine AtB.pop rfl (by simp [Act.put]) (fun z4 _ => ?_)
  refine AtB.base ?_
  obtain ⟨An, cn, rfl, hon⟩ := hz
  have HN := hide hon
  clear hon CN
  simp only [Act.put, List.setIfInBounds_toArray, List.set_cons_zero, List.set_cons_succ]
  go_wp2_with fail
  have hgB : Grows w y2.now := GG
  have hY0 := HY.out.grow hgB
  have hN0 := HN.out
  have hR0 := HROW.out.grows hgB
  have a30 := a3.grow y2.grows
  have hS3 : ¬ (b3 = b ∨ ∃ p, Aw = some p ∧ p.block = b3) := by
    rintro (e | ⟨p, hp, e⟩)
    · exact (a30.ne hY0.box (by decide)) e
    · have := HY.out.waits.own.ltB p hp
      have := HB3.out
      omega
  clear a3 hbx HN HROW
  obtain ⟨W0, hW0⟩ : ∃ W0, W0 = y2.now := ⟨_, rfl⟩
  rw [← hW0] at hgB hY0 hN0 hR0 a30 ⊢
  clear hW0
  have nS : ∀ {n c : Nat} {A1 : Option Addr} {xs : List Value}, Own W0 0 3 1 A1 n c xs → ∀ p, A1 = some p → ¬ (p.block = b ∨ ∃ q, Aw = some q ∧ q.block = p.block) := fun ho p hp hc => by
    rcases hc with e | ⟨q, hq, e⟩
    · exact ho.not_arr hY0.box (by decide) p hp e
    · exact ho.not_own hY0.waits.own (by decide) p q hp hq e.symm
  have HNS := hide (fun (X : World) (hT : Touch (fun j => j = b ∨ ∃ p, Aw = some p ∧ p.block = j) W0 X) => show Arr X b3 53 [.slice Ar r.length cr, .int .u64 (fr : Int)] ∧ Own X 0 3 1 An (r.length + 1) cn (nv (ndsN E s r)) ∧ Own X 0 3 1 Ar r.length cr (nv r) from
    ⟨a30.touch hT hS3, hN0.touch hT (nS hN0), hR0.touch hT (nS hR0)⟩)
  have HY0 := hide hY0
  have HGB := hide hgB
  clear nS hS3 hN0 hR0 a30 hY0 hgB
  go_loopw [36] (fun i wr => ∃ k : Nat, k ≤ r.length ∧ i = .int .i64 (k : Int) ∧ ∃ Aw' cw' rsW' W', Hid (YnAt wr b N E s t Ag cg At ct rsT (A ++ [r]) Aw' cw' rsW' W') ∧ Hid (YL E s t A r k W') ∧ Hid (Touch (fun j => j = b ∨ ∃ p, Aw = some p ∧ p.block = j) W0 wr) ∧ Hid (∀ p, Aw' = some p → (∃ q, Aw = some q ∧ q.block = p.block) ∨ New W0 wr p.block)) (fun i _ => r.length - (Go.RowKit.intOf i).toNat)
  case atStart => exact ⟨0, by omega, by go_num, Aw, cw, rsW, W, HY0.out, HYL.out, Touch.refl _ _, fun p hp => .inl ⟨p, hp, rfl⟩⟩
  case round =>
    obtain ⟨k, hk, rfl, Aw2, cw2, rsW2, W2, HY2, HL2, HT2, HP2⟩ := hrel
    clear HYL HY0
    by_cases hlt : k < r.length
    · obtain ⟨q3, qN, qR⟩ := HNS.out _ HT2.out
      have hb2 := HY2.out.box
      obtain ⟨gA, curA, rfl, _⟩ := qR.at_ (by omega)
      have hcr := qR.capN
      have HQN := hide qN
      have HQR := hide qR
      have hkc : k ≤ cr := by omega
      clear qN qR
      generalize hrl2 : r.length = nr at *
      have HRL := hide hrl2
      clear hrl2
      go_wp2_with fail
      obtain ⟨W3, hW3⟩ : ∃ W3, W3 = (wr.alloc (.cells #[.int .i64 (k : Int)] 3)).alloc (.cells #[.slice (some ⟨gA, 0, none⟩) k k] 22) := ⟨_, rfl⟩
      have a7 : Arr W3 wr.heap.size 3 [.int .i64 (k : Int)] := by rw [hW3]; exact (Arr.make _ _ _).grow ((Grows.refl _).new _)
      have a8 : Arr W3 (wr.heap.size + 1) 22 [.slice (some ⟨gA, 0, none⟩) k k] := by
        have h1 := Arr.make (wr.alloc (.cells #[.int .i64 (k : Int)] 3)) [.slice (some ⟨gA, 0, none⟩) k k] 22
        rw [hW3]
        simpa using h1
      have hgW3 : Grows wr W3 := by rw [hW3]; exact ((Grows.refl _).new _).new _
      rw [← hW3]
      clear hW3
      generalize wr.heap.size + 1 = b8 at *
      generalize wr.heap.size = b7 at *
      obtain ⟨y3, rfl⟩ := hgW3.later
      clear hgW3
      have HTL := hide (show rsT.length = (A ++ [r]).length from by rw [HY2.out.told.len]; simp [rtW])
      have hnT : rsT.length ≤ 10001 := by rw [HTL.out]; simp; omega
      have HYT := hide HY2.out.told
      have HTS := hide (show ∀ x ∈ A ++ [r], SP E s t x from fun x hx => by
        rcases List.mem_append.1 hx with e | e
        · exact HL2.out.told x e
        · rw [List.mem_singleton.1 e]; exact HL2.out.tip)
      have HSH := hide (show ∀ x, SP E s t x → x.length ≤ 4096 from fun x hx => by
        have h1 := hx.short HR.out hs
        have h2 := (right_in HR.out).2.1
        omega)
      have HRD := hide (show Rd wr (some ⟨gA, 0, none⟩) 1 k (nv (r.take k)) from HQR.out.rd.takeN hk)
      generalize hTT : A ++ [r] = TT at *
      have HTT := hide hTT
      clear hTT
      generalize hnt : rsT.length = nT at *
      have HNT := hide hnt
      clear hnt
      go_loopw [50, 10] (fun q no wx => ∃ j : Nat, j ≤ nT ∧ q = .int .i64 (j : Int) ∧ ∃ A9 c9, no = .slice A9 (noL (TT.take j) r k).length c9 ∧ ∃ y : Later y3.now, wx = y.now ∧ Own y.now y3.now.heap.size 3 1 A9 (noL (TT.take j) r k).length c9 (nv (noL (TT.take j) r k))) (fun q _ _ => nT - (Go.RowKit.intOf q).toNat)
      case atStart => exact ⟨0, by omega, by go_num, none, 0, rfl, ⟨_, Grows.refl _⟩, rfl, Own.nil _ _ _ _⟩
      case round =>
        obtain ⟨j, hj, rfl, A9, c9, rfl, y, rfl, ho⟩ := hrel
        have HO := hide ho
        have hnl : (noL (TT.take j) r k).length ≤ 10001 := Nat.le_trans (noL_len _ _ _) (by rw [List.length_take]; omega)
        clear ho
        by_cases hjt : j < nT
        · have hjT : j < TT.length := by rw [← HTL.out]; exact hjt
          obtain ⟨gT, A1, c1, rfl, _, k1, k2, o1⟩ := HYT.out.way hjT
          have hxl : (gL TT j).length ≤ 4096 := HSH.out _ (HTS.out _ (by rw [gL_at hjT]; exact List.getElem_mem _))
          have CS := hide (fun (X : World) (g : Grows wr X) (h7 : Holds X ⟨b7, 0, none⟩ (.int .i64 (k : Int))) (h8 : Holds X ⟨b8, 0, none⟩ (.slice (some ⟨gA, 0, none⟩) k k)) => yeSpur1 A1 (gL TT j).length c1 (gL TT j) b7 b8 k (some ⟨gA, 0, none⟩) k (r.take k) X h7 h8 (o1.rd.grows g) (by omega) o1.capN (HRD.out.grows g) (by omega))
          have HSN := hide (show noL (TT.take (j + 1)) r k = noL (TT.take j) r k ++ (if k < (gL TT j).length ∧ (gL TT j).take k = r.take k then [gn (gL TT j) k] else []) from by
            rw [List.take_succ_eq_append_getElem hjT, noL_snoc, ← gL_at hjT])
          by_cases hc : k < (gL TT j).length ∧ (gL TT j).take k = r.take k
          · rw [decide_eq_true hc] at CS
            rw [if_pos hc] at HSN
            obtain ⟨bx, ox, rfl, hcx⟩ := o1.rd.natsH (by omega)
            have cx := hcx k hc.1
            have hkx := hc.1
            clear hcx o1 hc
            generalize gn (gL TT j) k = q at *
            generalize (gL TT j).length = nx at *
            generalize wE E (gL TT j) = fx at *
            go_wp2_with (first
              | (go_at_call 146; refine (CS.out _ GG inferInstance inferInstance).mono ?_; rintro e w' ⟨rfl, hg⟩; obtain ⟨x1, rfl⟩ := hg.later; clear hg)
              | (at_builtin; refine wp_app1 elemInt rfl _ _ rfl y3.now GG (noL (TT.take j) r k).length c9 A9 _ rfl (HO.out.grows GG) _ _ _ rfl inferInstance rfl (by omega) ?_; intro A3 c3 z3 hown3; have HO3 := hide hown3; clear hown3))
            exact ⟨⟨j + 1, by omega, by go_num, A3, c3, by rw [HSN.out, List.length_append, List.length_singleton], z3, rfl, by rw [HSN.out, List.length_append, List.length_singleton, show nv (noL (TT.take j) r k ++ [q]) = nv (noL (TT.take j) r k) ++ [.int .i64 (q : Int)] by simp [nv]]; exact HO3.out⟩, by simp [Go.RowKit.intOf]; omega⟩
          · rw [decide_eq_false hc] at CS
            rw [if_neg hc, List.append_nil] at HSN
            clear o1 hc
            generalize (gL TT j).length = nx at *
            generalize wE E (gL TT j) = fx at *
            go_wp2_with (go_at_call 146; refine (CS.out _ GG inferInstance inferInstance).mono ?_; rintro e w' ⟨rfl, hg⟩; obtain ⟨x1, rfl⟩ := hg.later; clear hg)
            exact ⟨⟨j + 1, by omega, by go_num, A9, c9, by rw [HSN.out], ⟨_, GG⟩, rfl, by rw [HSN.out]; exact HO.out.grows (show Grows y.now x1.now from GG)⟩, by simp [Go.RowKit.intOf]; omega⟩
        · obtain rfl : j = nT := by omega
          have hz : TT.take j = TT := List.take_of_length_le (by rw [← HTL.out]; omega)
          rw [hz] at HO hnl ⊢
          clear hz
          have hnv : ndAt E s r k < N := isW.nd_lt HR.out hs HL2.out.tip.1 (by rw [HRL.out]; exact hk)
          obtain ⟨l, f, rr, hp⟩ := isPath_any E ⟨false, ((ndsN E s r).take k).map fun (u : Nat) => (u : Int), (noL TT r k).map fun (j : Nat) => (j : Int), [], 0⟩ (N : Int) (ndAt E s r k : Int) (t : Int) (by simp; omega) (by simp; omega)
          obtain ⟨gN, curN, hAn, _⟩ := HQN.out.at_ (by omega)
          subst hAn
          have hcn : k ≤ cn := by have := HQN.out.capN; omega
          have cN : Holds wr ⟨gN, k, none⟩ (.int .i64 (ndAt E s r k : Int)) := by
            obtain ⟨bx, ox, e, hcx⟩ := HQN.out.rd.natsH (by omega)
            injection e with e
            injection e with e1 e2
            subst e1 e2
            have := hcx k (by omega)
            rw [Nat.zero_add] at this
            exact this
          have CP := hide (fun (X : World) (g : Grows wr X) (g9 : Grows y.now X) => show Calls Tryz.prog 79 #[.agg #[.int .i64 (N : Int), .slice Ag E.length cg], .int .i64 (ndAt E s r k : Int), .int .i64 (t : Int), .agg #[.bool false, .slice (some ⟨gN, 0, none⟩) k k, .slice A9 (noL TT r k).length c9, .slice none 0 0, .int .u64 0]] X fun e w' =>
              ∃ A' c', e = .returned (.tuple #[.agg #[.slice A' l.length c', .int .u64 (f : Int)], .int .i64 rr]) ∧ Own w' X.heap.size 3 1 A' l.length c' (nv l) ∧ Grows X w' from by
            have h2 : Rd X (some ⟨gN, 0, none⟩) 1 k (nv ((ndsN E s r).take k)) := (HQN.out.rd.takeN (by omega)).grows g
            have h3 : Rd X A9 1 (noL TT r k).length (nv (noL TT r k)) := HO.out.rd.grows g9
            have e2 : (((ndsN E s r).take k).map fun (u : Nat) => (u : Int)).length = k := by rw [List.length_map, List.length_take, ndsN_len, HRL.out]; omega
            have e3 : ((noL TT r k).map fun (j : Nat) => (j : Int)).length = (noL TT r k).length := List.length_map ..
            have := caPath (N : Int) (ndAt E s r k : Int) (t : Int) Ag cg E ⟨false, ((ndsN E s r).take k).map fun (u : Nat) => (u : Int), (noL TT r k).map fun (j : Nat) => (j : Int), [], 0⟩ (some ⟨gN, 0, none⟩) A9 none k c9 0 l f rr X (HY2.out.gr.rd.grows g)
              (by show Rd X _ 1 (((ndsN E s r).take k).map fun (u : Nat) => (u : Int)).length ((((ndsN E s r).take k).map fun (u : Nat) => (u : Int)).map (.int .i64)); rw [e2, ← nv_gi]; exact h2)
              (by show Rd X _ 1 ((noL TT r k).map fun (j : Nat) => (j : Int)).length (((noL TT r k).map fun (j : Nat) => (j : Int)).map (.int .i64)); rw [e3, ← nv_gi]; exact h3)
              ⟨by simp [wv], fun h => absurd h (by simp)⟩ hEl (by simp) hp
            simp only [e2, e3, List.length_nil] at this
            exact this)
          go_upto_region 15 with fail
          rcases can_is HR.out hnv ht hp with ⟨hrr, hl1, hl2, hl3, hl4, hl5⟩ | ⟨hrr, hl1, hl2, hl3⟩
          · subst hrr
            have HC1 := hide hl1
            have HC2 := hide hl2
            have HC3 := hide hl3
            have HC5 := hide hl5
            clear hl1 hl2 hl3 hl5 hp
            generalize hvv : ndAt E s r k = vv at *
            have HVV := hide hvv
            clear hvv
            generalize (noL TT r k).length = ln at *
            refine wp_region_box (bxS 22 23 20 13 87 53 [.slice none 0 0, .int .u64 0]) (by kernel_rfl) (by kernel_rfl) (by kernel_rfl) (fun oa os h1 h2 => by injection h1 with h1; injection h2 with h2; subst h1 h2; exact bxS_runs (by kernel_rfl) rfl rfl) ?_
            (repeat' (refine gLexX_val0 rfl (by kernel_rfl) (by kernel_rfl) (fun K hK => ?_); go_simp; (try (simp only [↓IntWalk.iteOmega]; try go_simp)); (try simp (disch := omega) only [IntWalk.i64_in]); (try simp (disch := omega) only [IntWalk.u64_in]); first | (refine hK _ ?_; clear hK K) | (apply Exists.intro; refine ⟨fun x => ?_, hK _ ?_⟩; (first | fail); clear hK K)))
            refine gLexX_prop rfl (by kernel_rfl) (by kernel_rfl) rfl (by simp) (PairQ (RteS l.length f (nv l)) (.int .i64 0)) (fun x S hS => ?_) ?_
            · go_simp
              refine (CP.out _ GG GG).mono ?_
              rintro e w' ⟨A8, c8, rfl, ho, hg⟩
              exact ⟨_, rfl, hg, fun w'' ht => ⟨_, rfl, A8, c8, rfl, (ho.noBox (fun k hk => (hS k hk).2) ht).base (Nat.zero_le _)⟩⟩
            refine gLexX_pair (by kernel_rfl) ⟨rfl, rfl, rfl, rfl, rfl, rfl⟩ ⟨rfl, rfl, rfl, rfl, rfl⟩ ⟨rfl, rfl, rfl, rfl, rfl⟩ (by decide) rfl (by decide) rfl (by simp) (by kernel_rfl) (by kernel_rfl) (by kernel_rfl) (by kernel_rfl) (by kernel_rfl) (by kernel_rfl) ?good ?_
            case good =>
              rintro v w1 ⟨A8, c8, rfl, _⟩
              exact ⟨_, rfl, rfl, by simp [Value.oneCell']⟩
            refine gLexX_end (fun v S b13 hb13 => ?_)
            refine AtX.pop rfl (by simp) (fun z1 hz1 => ?_)
            obtain rfl : z1 = _ := hz1
            refine AtX.pop rfl (by simp [Act.put]) (fun z2 _ => ?_)
            refine AtX.pop rfl (by simp [Act.put]) (fun z3 hz3 => ?_)
            obtain rfl : z3 = _ := hz3
            refine AtX.pop rfl (by simp [Act.put]) (fun z4 hz4 => ?_)
            obtain ⟨A8, c8, rfl, ho8⟩ := hz4
            refine AtX.pop rfl (by simp [Act.put]) (fun z5 _ => ?_)
            refine AtX.pop rfl (by simp [Act.put]) (fun z6 _ => ?_)
            refine AtX.base (by simp [Act.put, bxS]; rfl) (by simp [Act.put, bxS]; rfl) (fun e9 ha13 => ?_)
            subst e9
            simp only [Act.put, List.setIfInBounds_toArray, List.set_cons_zero, List.set_cons_succ]
            have a13 : Arr v.now b13 53 [.slice A8 l.length c8, .int .u64 (f : Int)] := ha13
            have H8 := hide ho8
            clear ha13 ho8 hb13 CP
            have hgv : Grows wr v.now := y3.grows.trans (y.grows.trans v.grows)
            have HKL := hide (show k < r.length by rw [HRL.out]; exact hlt)
            have HC4 := hide (show wE E (r.take k ++ l) = wE E (r.take k) + f from by rw [wE_append, HC3.out])
            have HW1 := hide (show wE E (r.take k) + f < 18446744073709551616 from by
              have h1 := wE_le HR.out (r.take k) (fun i hi => HL2.out.tip.1.edges i (List.mem_of_mem_take hi))
              have h2 : (r.take k).length ≤ 4096 := by rw [List.length_take]; omega
              have h3 : (r.take k).length * 4294967296 ≤ 4096 * 4294967296 := Nat.mul_le_mul_right _ h2
              have h4 := hl4
              unfold farV at h4
              omega)
            have hk60 : k ≤ 60 := by
              have h1 := HL2.out.tip.short HR.out hs
              have h2 := HKL.out
              omega
            have hll : l.length ≤ 60 := by
              have h1 : l.length < N := by
                have hsub : ∀ u ∈ ndsN E vv l, u < N := fun u hu => by
                  rcases List.mem_cons.1 hu with e | e
                  · rw [e]; exact hnv
                  · obtain ⟨i, hi, rfl⟩ := List.mem_map.1 e
                    have h4 := (right_in HR.out).2.2.2.1
                    rw [Int.toNat_natCast] at h4
                    exact (h4.t i (HC1.out.way.edges i hi)).1
                have h1 := List.Nodup.length_le_of_subset HC2.out (l₂ := List.range N) (fun u hu => List.mem_range.2 (hsub u hu))
                rw [ndsN_len] at h1
                simp at h1
                omega
              omega
            have HCD := hide (show Cand E s t A r k (r.take k ++ l) from by
              refine cand_of HR.out hs HL2.out.told HL2.out.tip HKL.out ?_ ?_ ?_
              · rw [HVV.out, HTT.out]; exact HC1.out
              · rw [HVV.out]; exact HC2.out
              · rw [HVV.out, HTT.out]; exact HC5.out)
            have CW := hide (fun (X : World) (g : Grows wr X) => show Calls Tryz.prog 87 #[.agg #[.int .i64 (N : Int), .slice Ag E.length cg], .slice (some ⟨gA, 0, none⟩) k k] X fun e w' => e = .returned (.tuple #[.int .u64 (wE E (r.take k) : Int), .bool true]) ∧ Grows X w' from by
              have h1 := HL2.out.tip.1.eds HR.out (r.take k) (fun i hi => List.mem_of_mem_take hi)
              have h2 := wtK_is HR.out (fun i hi => HL2.out.tip.1.edges i hi) k (Nat.le_of_lt HKL.out)
              have h3 := wtK_is (l := r.take k) HR.out (fun i hi => HL2.out.tip.1.edges i (List.mem_of_mem_take hi)) k (by rw [List.length_take]; have := HKL.out; omega)
              have h4 := pWeight (N : Int) Ag E.length cg E (some ⟨gA, 0, none⟩) k k (ciL (r.take k)) X (HY2.out.gr.rd.grows g) hEl (by rw [← nv_ci]; exact HRD.out.grows g) (by omega)
              rw [if_pos h1, h1, ciL_len, List.length_take, Nat.min_eq_left (Nat.le_of_lt HKL.out), h3, List.take_take, Nat.min_self] at h4
              exact h4)
            have CJ := hide (fun (X : World) (g : Grows v.now X) => pJoin (some ⟨gA, 0, none⟩) k k (wE E (r.take k)) (r.take k) A8 l.length c8 f l X (HRD.out.grows (hgv.trans g)) hk60 (fun e => by cases e) (H8.out.rd.grows g) hll (fun e => H8.out.nil2 e) HW1.out)
            unfold rVal at CJ
            have CU := hide (fun (A7 : Option Addr) (c7 : Nat) (X : World) (g : Grows wr X) (ho : Own X 0 3 1 A7 (k + l.length) c7 (nv (r.take k ++ l))) => show Calls Tryz.prog 80 #[.pointer (some ⟨b, 0, none⟩), .agg #[.slice A7 (k + l.length) c7, .int .u64 ((wE E (r.take k) : Int) + (f : Int))]] X (GiveYp X b N E s t Ag cg At ct rsT TT Aw2 W2 (r.take k ++ l)) from by
              have e1 : (r.take k ++ l).length = k + l.length := by rw [List.length_append, List.length_take, Nat.min_eq_left (Nat.le_of_lt HKL.out)]
              have := yePut b N E s t Ag cg At ct rsT TT Aw2 cw2 rsW2 W2 A7 c7 (r.take k ++ l) X (HY2.out.grow g) HL2.out.sort (Nat.le_trans (HL2.out.few HALL.out) (by omega)) (by rw [e1]; omega) (fun p hp => Nat.le_trans (HSH.out p (HL2.out.wait p hp).1) (by omega)) (by rw [e1]; exact ho)
              rw [e1, HC4.out] at this
              unfold rVal at this
              rw [Int.natCast_add] at this
              exact this)
            unfold GiveYp at CU
            clear HC4 HW1 hl4 HRD HSH HTS HQN HQR HYT HC1 HC2 HC3 HC5 HVV
            generalize wE E (r.take k) = w1 at *
            generalize l.length = nl at *
            go_upto_region 17 with fail
            ((first | refine wp_region_gen (by kernel_rfl) (by kernel_rfl) ?_); (repeat' (first | (refine gLex_val0 rfl (by kernel_rfl) (fun K hK => ?_); (go_simp; (try (simp only [↓IntWalk.iteOmega]; try go_simp)); (try simp (disch := omega) only [IntWalk.i64_in]); (try simp (disch := omega) only [IntWalk.u64_in]); first | (refine hK _ ?_; clear hK K) | (apply Exists.intro; refine ⟨fun x => ?_, hK _ ?_⟩; (first | (go_at_call 87; exact CW.out _ GG)); clear hK K))) | (refine gLex_undef rfl rfl rfl (by kernel_rfl) (fun K hK => ?_); go_simp; refine hK _ ?_; clear hK K) | (refine gLex_ask rfl rfl rfl ?_; first | (apply gAsk_yes; kernel_rfl; intro K hK; (go_simp; (try (simp only [↓IntWalk.iteOmega]; try go_simp)); (try simp (disch := omega) only [IntWalk.i64_in]); (try simp (disch := omega) only [IntWalk.u64_in]); first | (refine hK _ ?_; clear hK K) | (apply Exists.intro; refine ⟨fun x => ?_, hK _ ?_⟩; (first | (go_at_call 87; exact CW.out _ GG)); clear hK K))) | ((first | apply gAsk_no1 | apply gAsk_no2); kernel_rfl; intro K hK; simp [go_sem]; refine hK _ ?_; clear hK K) | (apply gAsk_part; kernel_rfl; all_goals (intro h K hK; (try simp only [Bool.not_true] at h); (try simp only [Bool.not_false] at h); (try simp only [decide_eq_true_eq] at h); (try simp only [decide_eq_false_iff_not] at h); first | (exfalso; first | contradiction | omega) | (go_simp; (try (simp only [↓IntWalk.iteOmega]; try go_simp)); (try simp (disch := omega) only [IntWalk.i64_in]); (try simp (disch := omega) only [IntWalk.u64_in]); first | (refine hK _ ?_; clear hK K) | (apply Exists.intro; refine ⟨fun x => ?_, hK _ ?_⟩; (first | (go_at_call 87; exact CW.out _ GG)); clear hK K))))))); all_goals ((apply gLex_end); intro x1))
            go_wp2_with (go_at_call 147; refine (CJ.out _ GG).mono ?_; rintro e w' ⟨A7, c7, rfl, ho7, hg⟩; obtain ⟨x2, rfl⟩ := hg.later; have H7 := hide ho7; clear ho7 hg)
            refine (CU.out A7 c7 _ GG H7.out).mono ?_
            rintro e w5 ⟨rfl, Aw5, cw5, rsW5, W5, hY5, hI5, hT5, hP5⟩
            have HF5 := hide (And.intro hY5 (And.intro (HL2.out.some HCD.out hI5) (And.intro ((HT2.out.grows (show Grows wr x2.now from GG)).trans2 hT5 (fun j hj => by
              rcases hj with e | ⟨p, hp, e⟩
              · exact .inl (.inl e)
              · rcases HP2.out p hp with ⟨q, h3, h4⟩ | h3
                · exact .inl (.inr ⟨q, h3, h4.trans e⟩)
                · exact .inr (by rw [← e]; exact h3.1))) (show ∀ p, Aw5 = some p → (∃ q, Aw = some q ∧ q.block = p.block) ∨ New W0 w5 p.block from fun p hp => by
              have hz1 := (show Grows wr x2.now from GG).size
              have hz2 := hT5.size
              have hz3 := HT2.out.size
              rcases hP5 p hp with ⟨q, h3, h4⟩ | h3
              · rcases HP2.out q h3 with ⟨q', h5, h6⟩ | h5
                · exact .inl ⟨q', h5, h6.trans h4⟩
                · exact .inr (by rw [← h4]; exact ⟨h5.1, by have := h5.2; omega⟩)
              · exact .inr ⟨by have := h3.1; omega, h3.2⟩))))
            clear hY5 hI5 hT5 hP5 CU CJ CW
            go_wp2_with fail
            exact ⟨⟨k + 1, by omega, by go_num, Aw5, cw5, rsW5, W5, by rw [HTT.out]; exact HF5.out.1, HF5.out.2.1, HF5.out.2.2.1, HF5.out.2.2.2⟩, by simp [Go.RowKit.intOf]; omega⟩
          · have HNO := hide hl3
            subst hl1 hl2
            have hb1 : (rr != 0) = true := by simpa using hrr
            clear hl3 hp hrr
            generalize hvv : ndAt E s r k = vv at *
            have HVV := hide hvv
            clear hvv
            generalize (noL TT r k).length = ln at *
            refine wp_region_box (bxS 22 23 20 13 87 53 [.slice none 0 0, .int .u64 0]) (by kernel_rfl) (by kernel_rfl) (by kernel_rfl) (fun oa os h1 h2 => by injection h1 with h1; injection h2 with h2; subst h1 h2; exact bxS_runs (by kernel_rfl) rfl rfl) ?_
            (repeat' (refine gLexX_val0 rfl (by kernel_rfl) (by kernel_rfl) (fun K hK => ?_); go_simp; (try (simp only [↓IntWalk.iteOmega]; try go_simp)); (try simp (disch := omega) only [IntWalk.i64_in]); (try simp (disch := omega) only [IntWalk.u64_in]); first | (refine hK _ ?_; clear hK K) | (apply Exists.intro; refine ⟨fun x => ?_, hK _ ?_⟩; (first | fail); clear hK K)))
            refine gLexX_prop rfl (by kernel_rfl) (by kernel_rfl) rfl (by simp) (PairQ (RteS 0 0 (nv [])) (.int .i64 rr)) (fun x S hS => ?_) ?_
            · go_simp
              refine (CP.out _ GG GG).mono ?_
              rintro e w' ⟨A8, c8, rfl, ho, hg⟩
              exact ⟨_, rfl, hg, fun w'' ht => ⟨_, rfl, A8, c8, rfl, (ho.noBox (fun k hk => (hS k hk).2) ht).base (Nat.zero_le _)⟩⟩
            refine gLexX_pair (by kernel_rfl) ⟨rfl, rfl, rfl, rfl, rfl, rfl⟩ ⟨rfl, rfl, rfl, rfl, rfl⟩ ⟨rfl, rfl, rfl, rfl, rfl⟩ (by decide) rfl (by decide) rfl (by simp) (by kernel_rfl) (by kernel_rfl) (by kernel_rfl) (by kernel_rfl) (by kernel_rfl) (by kernel_rfl) ?good ?_
            case good =>
              rintro v w1 ⟨A8, c8, rfl, _⟩
              exact ⟨_, rfl, rfl, by simp [Value.oneCell']⟩
            refine gLexX_end (fun v S b13 hb13 => ?_)
            refine AtX.pop rfl (by simp) (fun z1 hz1 => ?_)
            obtain rfl : z1 = _ := hz1
            refine AtX.pop rfl (by simp [Act.put]) (fun z2 _ => ?_)
            refine AtX.pop rfl (by simp [Act.put]) (fun z3 hz3 => ?_)
            obtain rfl : z3 = _ := hz3
            refine AtX.pop rfl (by simp [Act.put]) (fun z4 hz4 => ?_)
            obtain ⟨A8, c8, rfl, ho8⟩ := hz4
            refine AtX.pop rfl (by simp [Act.put]) (fun z5 _ => ?_)
            refine AtX.pop rfl (by simp [Act.put]) (fun z6 _ => ?_)
            refine AtX.base (by simp [Act.put, bxS]; rfl) (by simp [Act.put, bxS]; rfl) (fun e9 ha13 => ?_)
            subst e9
            simp only [Act.put, List.setIfInBounds_toArray, List.set_cons_zero, List.set_cons_succ]
            have hgv : Grows wr v.now := y3.grows.trans (y.grows.trans v.grows)
            have HKL := hide (show k < r.length by rw [HRL.out]; exact hlt)
            have HF5 := hide (And.intro (HY2.out.grow hgv) (And.intro (show YL E s t A r (k + 1) W2 from HL2.out.none HR.out hs HKL.out (fun q hq hf => HNO.out q (by rw [HVV.out, HTT.out] at hq; exact hq) hf)) (And.intro (HT2.out.grows hgv) (show ∀ p, Aw2 = some p → (∃ q, Aw = some q ∧ q.block = p.block) ∨ New W0 v.now p.block from fun p hp => by
              have hz1 := hgv.size
              rcases HP2.out p hp with h3 | h3
              · exact .inl h3
              · exact .inr ⟨h3.1, by have := h3.2; omega⟩))))
            clear ha13 ho8 hb13 CP
            go_wp2_with fail
            exact ⟨⟨k + 1, by omega, by go_num, Aw2, cw2, rsW2, W2, by rw [HTT.out]; exact HF5.out.1, HF5.out.2.1, HF5.out.2.2.1, HF5.out.2.2.2⟩, by simp [Go.RowKit.intOf]; omega⟩
    · obtain rfl : k = r.length := by omega
      go_wp2_with fail
      first | go_end0 | (rw [Exit.noGoto_normal]; go_end0)
      refine ⟨rfl, Aw2, cw2, rsW2, W2, HY2.out, HL2.out, (HGB.out.touch _).trans HT2.out, fun p hp => ?_⟩
      rcases HP2.out p hp with h | h
      · exact .inl h
      · exact .inr ⟨Nat.le_trans HGB.out.size h.1, h.2⟩
end Go.Proofs.YtgplpgldhoelcaaGreat

namespace Go.Proofs.YtgplpgldhoelcaaGreat
open Go Go.RowKit
attribute [local go_sem] Oper.semAt_some
theorem rt_flat_len (q : List Rt) : (q.flatMap rtC).length = q.length * 2 := by
  induction q with
  | nil => rfl
  | cons a q ih => rw [List.flatMap_cons, List.length_append, ih, List.length_cons, show (rtC a).length = 2 from rfl]; omega
theorem YnAt.pop {w w1 w2 : World} {b N : Nat} {E : List Edg} {s t : Nat} {Ag : Option Addr} {cg : Nat} {At : Option Addr} {ct : Nat} {rsT : List Rt} {T : List (List Nat)} {Aw : Option Addr} {cw : Nat} {rsW : List Rt} {r : List Nat} {W : List (List Nat)}
    (h : YnAt w b N E s t Ag cg At ct rsT T Aw cw rsW (r :: W)) (hg : Grows w w1) (ho : Own w2 0 53 2 Aw (rsW.length - 1) cw ((rsW.flatMap rtC).drop 2)) (ht : Touch (fun j => ∃ p, Aw = some p ∧ p.block = j) w1 w2) :
    rsW.tail.length = rsW.length - 1 ∧ YnAt (w2.setCell ⟨b, 5, none⟩ (.slice Aw (rsW.length - 1) cw)) b N E s t Ag cg At ct rsT T Aw cw rsW.tail W ∧ Touch (fun j => j = b ∨ ∃ p, Aw = some p ∧ p.block = j) w (w2.setCell ⟨b, 5, none⟩ (.slice Aw (rsW.length - 1) cw)) ∧
      ∀ {n c : Nat} {A1 : Option Addr} {xs : List Value}, Own w1 0 3 1 A1 n c xs → Own (w2.setCell ⟨b, 5, none⟩ (.slice Aw (rsW.length - 1) cw)) 0 3 1 A1 n c xs := by
  have hlt : rsW.tail.length = rsW.length - 1 := List.length_tail
  have h1 := h.grow hg
  have nb : ∀ p, Aw = some p → p.block ≠ b := fun p hp => h1.waits.own.not_arr h1.box (by decide) p hp
  have hbox := h1.box.touch ht (fun ⟨p, hp, he⟩ => nb p hp he)
  have ho' : ∀ {B n c size : Nat} {e : TypeId} {A : Option Addr} {xs : List Value}, Own w2 B e size A n c xs → e ≠ 130 → Own (w2.setCell ⟨b, 5, none⟩ (.slice Aw (rsW.length - 1) cw)) B e size A n c xs := fun ho hne =>
    ho.touch (((Touch.refl (fun j => j = b) w2).set (p := ⟨b, 5, none⟩) (.inl rfl) _)) (fun p hp he => ho.not_arr hbox hne p hp he)
  have row : ∀ {n c : Nat} {A1 : Option Addr} {xs : List Value}, Own w1 0 3 1 A1 n c xs → Own (w2.setCell ⟨b, 5, none⟩ (.slice Aw (rsW.length - 1) cw)) 0 3 1 A1 n c xs := fun hr => ho' (hr.touch ht (fun p hp ⟨q, hq, he⟩ => hr.not_own h1.waits.own (by decide) p q hp hq he.symm)) (by decide)
  refine ⟨hlt, ⟨?_, ho' (h1.gr.touch ht (fun p hp ⟨q, hq, he⟩ => h1.gr.not_own h1.waits.own (by decide) p q hp hq he.symm)) (by decide), ⟨ho' (h1.told.own.touch ht (fun p hp ⟨q, hq, he⟩ => h1.sep p q hp hq he.symm)) (by decide), fun r hr => row (h1.told.rows r hr), h1.told.eqs⟩, ⟨?_, fun r hrm => row (h1.waits.rows r (List.mem_of_mem_tail hrm)), ?_⟩, h.sep⟩, ((hg.touch _).trans (ht.mono (fun j hj => .inr hj))).set (.inl (.inl rfl)) _, row⟩
  · rw [hlt]
    exact hbox.set 5 _
  · have e : rsW.tail.flatMap rtC = (rsW.flatMap rtC).drop 2 := by
      cases rsW with
      | nil => rfl
      | cons a q => simp [rtC]
    rw [hlt, e]
    exact ho' ho (by decide)
  · rw [List.map_tail, h.waits.eqs]
    rfl
theorem YnAt.tell {w w1 w2 : World} {b N : Nat} {E : List Edg} {s t : Nat} {Ag : Option Addr} {cg : Nat} {At : Option Addr} {ct : Nat} {rsT : List Rt} {T : List (List Nat)} {Aw : Option Addr} {cw : Nat} {rsW : List Rt} {W : List (List Nat)} {Ar : Option Addr} {cr : Nat} {r : List Nat} {At' : Option Addr} {ct' : Nat}
    (h : YnAt w b N E s t Ag cg At ct rsT T Aw cw rsW W) (hg : Grows w w1) (hr : Own w 0 3 1 Ar r.length cr (nv r))
    (ho : Own w2 0 53 2 At' (rsT.length + 1) ct' (rsT.flatMap rtC ++ [.slice Ar r.length cr, .int .u64 (wE E r : Int)])) (ht : Touch (fun j => ∃ p, At = some p ∧ p.block = j) w1 w2) (hn : ∀ p, At' = some p → (∃ q, At = some q ∧ q.block = p.block) ∨ New w1 w2 p.block) :
    YnAt (w2.setCell ⟨b, 4, none⟩ (.slice At' (rsT.length + 1) ct')) b N E s t Ag cg At' ct' (rsT ++ [(Ar, cr, r, wE E r)]) (T ++ [r]) Aw cw rsW W ∧ Touch (fun j => j = b ∨ ∃ p, At = some p ∧ p.block = j) w (w2.setCell ⟨b, 4, none⟩ (.slice At' (rsT.length + 1) ct')) ∧ (∀ p, At' = some p → (∃ q, At = some q ∧ q.block = p.block) ∨ New w (w2.setCell ⟨b, 4, none⟩ (.slice At' (rsT.length + 1) ct')) p.block) ∧
      ∀ {n c : Nat} {A1 : Option Addr} {xs : List Value}, Own w1 0 3 1 A1 n c xs → Own (w2.setCell ⟨b, 4, none⟩ (.slice At' (rsT.length + 1) ct')) 0 3 1 A1 n c xs := by
  have h1 := h.grow hg
  have nb : ∀ p, At = some p → p.block ≠ b := fun p hp => h1.told.own.not_arr h1.box (by decide) p hp
  have hbox := h1.box.touch ht (fun ⟨p, hp, he⟩ => nb p hp he)
  have ho' : ∀ {B n c size : Nat} {e : TypeId} {A : Option Addr} {xs : List Value}, Own w2 B e size A n c xs → e ≠ 130 → Own (w2.setCell ⟨b, 4, none⟩ (.slice At' (rsT.length + 1) ct')) B e size A n c xs := fun ho hne =>
    ho.touch (((Touch.refl (fun j => j = b) w2).set (p := ⟨b, 4, none⟩) (.inl rfl) _)) (fun p hp he => ho.not_arr hbox hne p hp he)
  have row : ∀ {n c : Nat} {A1 : Option Addr} {xs : List Value}, Own w1 0 3 1 A1 n c xs → Own (w2.setCell ⟨b, 4, none⟩ (.slice At' (rsT.length + 1) ct')) 0 3 1 A1 n c xs := fun hr => ho' (hr.touch ht (fun p hp ⟨q, hq, he⟩ => hr.not_own h1.told.own (by decide) p q hp hq he.symm)) (by decide)
  refine ⟨⟨?_, ho' (h1.gr.touch ht (fun p hp ⟨q, hq, he⟩ => h1.gr.not_own h1.told.own (by decide) p q hp hq he.symm)) (by decide), ⟨?_, fun x hx => ?_, ?_⟩, ⟨ho' (h1.waits.own.touch ht (fun p hp ⟨q, hq, he⟩ => h1.sep q p hq hp he)) (by decide), fun r hr => row (h1.waits.rows r hr), h1.waits.eqs⟩, fun p q hp hq => ?_⟩, ((hg.touch _).trans (ht.mono (fun j hj => .inr hj))).set (.inl (.inl rfl)) _, fun p hp => ?_, row⟩
  · rw [List.length_append, List.length_singleton]
    exact hbox.set 4 _
  · rw [List.length_append, List.length_singleton, List.flatMap_append]
    exact ho' ho (by decide)
  · rcases List.mem_append.1 hx with hm | hm
    · exact row (h1.told.rows x hm)
    · rw [List.mem_singleton.1 hm]
      exact row (hr.grows hg)
  · rw [List.map_append, h.told.eqs]
    simp [rtW]
  · rcases hn p hp with ⟨q', h3, h4⟩ | h3
    · rw [← h4]
      exact h.sep q' q h3 hq
    · have := h1.waits.own.ltB q hq
      have h4 := h3.1
      omega
  · rcases hn p hp with h3 | h3
    · exact .inl h3
    · refine .inr ⟨Nat.le_trans hg.size h3.1, ?_⟩
      rw [size_setCell]
      exact h3.2
theorem yeNextNone (b N : Nat) (E : List Edg) (s t : Nat) (Ag : Option Addr) (cg : Nat) (At : Option Addr) (ct : Nat) (rsT : List Rt) (T : List (List Nat)) (Aw : Option Addr) (cw : Nat) (rsW : List Rt) (w : World) (h : YnAt w b N E s t Ag cg At ct rsT T Aw cw rsW []) :
    Calls Tryz.prog 29 #[.pointer (some ⟨b, 0, none⟩)] w fun e w' => e = .returned (.tuple #[.agg #[.slice none 0 0, .int .u64 0], .bool false]) ∧ Grows w w' := by
  have hl : rsW.length = 0 := by rw [h.waits.len]; rfl
  have hb := h.box
  rw [hl] at hb
  clear h hl
  go_enter Tryz.func29, Tryz.ntmps29
  go_wp2_with fail
  exact bodyPost_ret (v := .tuple #[.agg #[.slice none 0 0, .int .u64 0], .bool false]) (by simp (maxDischargeDepth := 6) [results, Tryz.results29, go_sem]) rfl ⟨rfl, GG⟩
set_option maxRecDepth 20000 in
set_option maxHeartbeats 2000000 in
theorem cloneNy (A : Option Addr) (n c : Nat) (l : List Nat) (w : World) (h : Rd w A 1 n (nv l)) (hn : n ≤ 1000000) :
    Calls Tryz.prog 56 #[.slice A n c] w fun e w' => ∃ A' c', e = .returned (.slice A' n c') ∧ Own w' w.heap.size 3 1 A' n c' (nv l) ∧ Grows w w' := by
  have hl : l.length = n := by simpa [nv] using h.len
  cases A with
  | none =>
    have hn0 : n = 0 := by
      rcases Nat.eq_zero_or_pos n with h0 | h0
      · exact h0
      · obtain ⟨_, _, e, _⟩ := h.2 h0 (by omega); cases e
    subst hn0
    have hE : l = [] := List.eq_nil_of_length_eq_zero hl
    subst hE
    clear h hl
    have hnil := fun (w : World) (a : Option Addr) (n c n' c' : Nat) => Lib.run_eql_slice_nil (P := Tryz.prog) w 22 3 a n c n' c' Tryz.underlying22
    go_enter Tryz.func56, Tryz.ntmps56
    go_wp2
    go_ret
    exact ⟨none, 0, rfl, Own.nil _ _ _ _, GG⟩
  | some ad =>
    have HR := hide h
    have HE1 := hide (show ∀ u ∈ nv l, u.oneCell' = true from fun u hu => by
      rw [nv_gi] at hu
      obtain ⟨x, _, rfl⟩ := List.mem_map.1 hu
      rfl)
    clear h hl
    have hnil := fun (w : World) (a : Option Addr) (n c n' c' : Nat) => Lib.run_eql_slice_nil (P := Tryz.prog) w 22 3 a n c n' c' Tryz.underlying22
    generalize nv l = xs at *
    go_enter Tryz.func56, Tryz.ntmps56
    go_wp2_with (at_builtin; refine wp_appAll elemInt rfl _ _ rfl w GG 0 0 _ [] rfl (Own.empty _ _ _ _ (Nat.le_refl _)) ad n c _ rfl (HR.out.grows GG) HE1.out (by omega) ?_; intro A3 c3 y3 hown3; have HO3 := hide hown3; clear hown3)
    go_ret
    exact ⟨A3, c3, by first | rfl | (simp; done) | (rw [Nat.zero_add]; rfl), by have := HO3.out; rwa [Nat.zero_add, List.nil_append] at this, GG⟩
def GiveNx (w : World) (b N : Nat) (E : List Edg) (s t : Nat) (Ag : Option Addr) (cg : Nat) (At : Option Addr) (T : List (List Nat)) (Aw : Option Addr) (r : List Nat) (e : Ending) (w' : World) : Prop :=
  ∃ A' c', e = .returned (.tuple #[.agg #[.slice A' r.length c', .int .u64 (wE E r : Int)], .bool true]) ∧ Own w' 0 3 1 A' r.length c' (nv r) ∧ ∃ At' ct' rsT' Aw' cw' rsW' W', YnAt w' b N E s t Ag cg At' ct' rsT' (T ++ [r]) Aw' cw' rsW' W' ∧ YOk E s t (T ++ [r]) W' ∧
    Touch (fun k => k = b ∨ (∃ p, At = some p ∧ p.block = k) ∨ ∃ p, Aw = some p ∧ p.block = k) w w' ∧ (∀ p, (At' = some p ∨ Aw' = some p) → (∃ q, (At = some q ∨ Aw = some q) ∧ q.block = p.block) ∨ New w w' p.block)
set_option maxRecDepth 40000 in
set_option maxHeartbeats 16000000 in
theorem yeNext (b N : Nat) (E : List Edg) (s t : Nat) (Ag : Option Addr) (cg : Nat) (At : Option Addr) (ct : Nat) (rsT : List Rt) (T : List (List Nat)) (Aw : Option Addr) (cw : Nat) (rsW : List Rt) (r : List Nat) (W : List (List Nat)) (all : List (List Nat)) (w : World)
    (h : YnAt w b N E s t Ag cg At ct rsT T Aw cw rsW (r :: W)) (hok : YOk E s t T (r :: W)) (hr : rightF (N : Int) E = 0) (hN : N ≤ 60) (hs : s < N) (ht : t < N) (ha : AllR E s t all) (hal : all.length ≤ 10000) (hT : T.length ≤ 10000) :
    Calls Tryz.prog 29 #[.pointer (some ⟨b, 0, none⟩)] w (GiveNx w b N E s t Ag cg At T Aw r) := by
  unfold GiveNx
  have hwl : rsW.length = W.length + 1 := by rw [h.waits.len]; simp [rtW]
  have hfew := hok.few ha
  have hrl : r.length ≤ 4096 := by
    have h1 := (hok.next).1.short hr hs
    omega
  obtain ⟨gw, A1, c1, hAw, hr0, k1, k2, o1⟩ := h.waits.way (i := 0) (by simp)
  have e0 : gL (r :: W) 0 = r := rfl
  rw [e0] at hr0 k1 k2 o1
  rw [Nat.zero_mul] at k1 k2
  rw [Nat.zero_add] at k2
  have hTl : rsT.length = T.length := by rw [h.told.len]; simp [rtW]
  have CD := hide (fun (X : World) (g : Grows w X) => delR 0 X Aw rsW.length cw (rsW.flatMap rtC) (h.waits.own.grows g) (by omega) (by simp at hfew; omega) (rts_one rsW))
  have HY := hide h
  have HOK := hide hok
  have HO1 := hide o1
  have HR := hide hr
  have HALL := hide ha
  have hbx := h.box
  have hwb : rsW.length ≤ 100000 := by simp at hfew; omega
  have htb : rsT.length ≤ 100000 := by omega
  have hpos : 0 < rsW.length := by omega
  have HTL := hide hTl
  have HAW := hide hAw
  have HNW := hide (show ¬ ∃ p, Aw = some p ∧ p.block = b from fun ⟨p, hp, he⟩ => h.waits.own.not_arr h.box (by decide) p hp he)
  have hwlt := h.waits.own.ltB
  have HTLT := hide h.told.own.ltB
  have HPOP := hide (fun (w1 w2 : World) (hg : Grows w w1) => h.pop (w1 := w1) (w2 := w2) hg)
  clear h hok o1 ha hwl hTl hfew hr hr0 e0
  generalize hwe : wE E r = fr at *
  have HWE := hide hwe
  clear hwe
  generalize hnw : rsW.length = nw at *
  have HNWL := hide hnw
  clear hnw
  generalize hnr : r.length = nr at *
  have HNR := hide hnr
  clear hnr
  subst hAw
  go_enter Tryz.func29, Tryz.ntmps29
  go_upto_region 4 with fail
  obtain ⟨W1, hW1⟩ : ∃ W1, W1 = (w.alloc (.cells #[.slice none 0 0, .int .u64 0] 53)).alloc (.cells #[.slice A1 nr c1, .int .u64 (fr : Int)] 53) := ⟨_, rfl⟩
  have a2 : Arr W1 w.heap.size 53 [.slice none 0 0, .int .u64 0] := by rw [hW1]; exact (Arr.make _ _ _).grow ((Grows.refl _).new _)
  have a4 : Arr W1 (w.heap.size + 1) 53 [.slice A1 nr c1, .int .u64 (fr : Int)] := by
    have h1 := Arr.make (w.alloc (.cells #[.slice none 0 0, .int .u64 0] 53)) [.slice A1 nr c1, .int .u64 (fr : Int)] 53
    rw [hW1]
    simpa using h1
  have hgW : Grows w W1 := by rw [hW1]; exact ((Grows.refl _).new _).new _
  rw [← hW1]
  clear hW1
  obtain ⟨b4, hb4⟩ : ∃ b4, b4 = w.heap.size + 1 := ⟨_, rfl⟩
  rw [← hb4] at a4 ⊢
  obtain ⟨b2, hb2⟩ : ∃ b2, b2 = w.heap.size := ⟨_, rfl⟩
  rw [← hb2] at a2 ⊢
  have HB := hide (show w.heap.size ≤ b2 ∧ w.heap.size ≤ b4 ∧ b2 ≠ b4 ∧ b < w.heap.size from ⟨by omega, by omega, by omega, hbx.lt⟩)
  have HGW := hide (show gw < w.heap.size from hwlt _ rfl)
  have H1W := hide (HO1.out.grows hgW)
  clear hb4 hb2 hwlt HO1
  have hnz : ((nw : Int) == 0) = false := beq_eq_false_iff_ne.2 (by omega)
  obtain ⟨y1, rfl⟩ := hgW.later
  clear k1 k2
  go_wp2_with (go_at_call 83; refine (CD.out _ GG).mono ?_; rintro e w2 ⟨rfl, htd, hod⟩; have m5 : Mine w2 ⟨b, 5, none⟩ (.slice (some ⟨gw, 0, none⟩) nw cw) := ((hbx.grow hgW).touch htd HNW.out).mine 5 rfl; have HD := hide (And.intro htd hod); clear htd hod)
  have hPP := HPOP.out y1.now w2 hgW HD.out.2 HD.out.1
  have n4 : ¬ ∃ p, (some (⟨gw, 0, none⟩ : Addr)) = some p ∧ p.block = b4 := fun ⟨p, hp, he⟩ => by
    injection hp with hp
    subst hp
    have h1 := HB.out.2.1
    have h2 := HGW.out
    have he : gw = b4 := he
    omega
  have n2 : ¬ ∃ p, (some (⟨gw, 0, none⟩ : Addr)) = some p ∧ p.block = b2 := fun ⟨p, hp, he⟩ => by
    injection hp with hp
    subst hp
    have h1 := HB.out.1
    have h2 := HGW.out
    have he : gw = b2 := he
    omega
  have q4 := (a4.touch HD.out.1 n4).other (p := ⟨b, 5, none⟩) (show b ≠ b4 from fun e => by have h1 := HB.out.2.1; have h2 := HB.out.2.2.2; omega) (.slice (some ⟨gw, 0, none⟩) (nw - 1) cw)
  have q2 := (a2.touch HD.out.1 n2).other (p := ⟨b, 5, none⟩) (show b ≠ b2 from fun e => by have h1 := HB.out.1; have h2 := HB.out.2.2.2; omega) (.slice (some ⟨gw, 0, none⟩) (nw - 1) cw)
  generalize w2.setCell ⟨b, 5, none⟩ (.slice (some ⟨gw, 0, none⟩) (nw - 1) cw) = W3 at *
  obtain ⟨_, hY3, hT3, hrow3⟩ := hPP
  have HY3 := hide hY3
  have HT3 := hide hT3
  have H1 := hide (hrow3 H1W.out)
  have hb3 := hY3.box
  have HNT := hide (show ¬ ∃ p, At = some p ∧ p.block = b from fun ⟨p, hp, he⟩ => hY3.told.own.not_arr hY3.box (by decide) p hp he)
  clear hY3 hT3 hrow3 H1W HPOP HD m5 a2 a4 n2 n4 hbx CD HY HNW
  go_upto_region 5 with fail
  go_cut [4] (fun s4 wx => s4 = .pointer (some ⟨b4, 0, none⟩) ∧ ∃ A5 c5, Hid (YnAt wx b N E s t Ag cg A5 c5 (rsT ++ [(A1, c1, r, wE E r)]) (T ++ [r]) (some ⟨gw, 0, none⟩) cw rsW.tail W) ∧ Hid (Touch (fun j => j = b ∨ ∃ p, At = some p ∧ p.block = j) W3 wx) ∧ Hid (∀ p, A5 = some p → (∃ q, At = some q ∧ q.block = p.block) ∨ New W3 wx p.block) ∧ Hid (Own wx 0 3 1 A1 nr c1 (nv r)) ∧ Arr wx b4 53 [.slice A1 nr c1, .int .u64 (fr : Int)] ∧ Arr wx b2 53 [.slice none 0 0, .int .u64 0])
  case first =>
    go_region_law (refine step_appT elemRoute rfl _ _ rfl (fun k => ∃ p, At = some p ∧ p.block = k) _ ct At _ rfl (HY3.out.told.own.grows GG) (fun p hp => ⟨p, hp, rfl⟩) _ _ [.slice A1 nr c1, .int .u64 (fr : Int)] rfl rfl (fun j u hu => by
      match j, hu with
      | 0, hu => simp at hu; subst hu; simp [go_sem]
      | 1, hu => simp at hu; subst hu; simp [go_sem]) (fun u hu => by simp at hu; rcases hu with rfl | rfl <;> rfl) (by omega) ?_; intro A5 c5 w5 hown5 ht5 hn5; have m4 := (Arr.touch (Arr.grow hb3 GG) ht5 HNT.out).mine 4 rfl; have HM := hide (And.intro hown5 (And.intro ht5 hn5)); clear hown5 ht5 hn5)
    all_goals go_wp2_with fail
    all_goals go_meet
    all_goals (case rel =>
      have hq := HB.out
      have n4 : ¬ ∃ p, At = some p ∧ p.block = b4 := fun ⟨p, hp, he⟩ => by have := HTLT.out p hp; omega
      have n2 : ¬ ∃ p, At = some p ∧ p.block = b2 := fun ⟨p, hp, he⟩ => by have := HTLT.out p hp; omega
      have HX := HY3.out.tell (show Grows W3 _ from GG) (Ar := A1) (cr := c1) (r := r) (by rw [HNR.out]; exact H1.out) (by rw [HNR.out, HWE.out]; exact HM.out.1) HM.out.2.1 HM.out.2.2
      exact ⟨rfl, A5, c5, HX.1, HX.2.1, HX.2.2.1, HX.2.2.2 (H1.out.grows (show Grows W3 _ from GG)), (Arr.touch (Arr.grow q4 GG) HM.out.2.1 n4).other (p := ⟨b, 4, none⟩) (show b ≠ b4 by omega) _, (Arr.touch (Arr.grow q2 GG) HM.out.2.1 n2).other (p := ⟨b, 4, none⟩) (show b ≠ b2 by omega) _⟩)
  case rest =>
    obtain ⟨rfl, A5, c5, HY5, HT5, HP5, H15, s4, s2⟩ := hcut
    have HL3 := hide q2.lt
    have HLC := hide s2.lt
    clear q4 q2 hb3
    have HYL := hide HOK.out.tell
    have CS := hide (yeSpur b N E s t Ag cg A5 c5 (rsT ++ [(A1, c1, r, wE E r)]) T r (some ⟨gw, 0, none⟩) cw rsW.tail W A1 c1 all wc HY5.out HYL.out HR.out hN hs ht HALL.out hal (by omega) (by rw [HNR.out]; exact H15.out))
    unfold GiveSp rVal at CS
    rw [HNR.out, HWE.out] at CS
    go_wp2_with (go_at_call 84; refine CS.out.mono ?_; rintro e w6 ⟨rfl, Aw6, cw6, rsW6, W6, hY6, hL6, hT6, hP6⟩; have HQ := hide (And.intro hY6 (And.intro hL6 (And.intro hT6 hP6))); clear hY6 hL6 hT6 hP6)
    have hq := HB.out
    have n4 : ¬ (b4 = b ∨ ∃ p, (some (⟨gw, 0, none⟩ : Addr)) = some p ∧ p.block = b4) := by
      rintro (e | ⟨p, hp, he⟩)
      · omega
      · injection hp with hp
        subst hp
        have h2 := HGW.out
        have he : gw = b4 := he
        omega
    have n2 : ¬ (b2 = b ∨ ∃ p, (some (⟨gw, 0, none⟩ : Addr)) = some p ∧ p.block = b2) := by
      rintro (e | ⟨p, hp, he⟩)
      · omega
      · injection hp with hp
        subst hp
        have h2 := HGW.out
        have he : gw = b2 := he
        omega
    have v4 := s4.touch HQ.out.2.2.1 n4
    have v2 := s2.touch HQ.out.2.2.1 n2
    have H16 := hide (H15.out.touch HQ.out.2.2.1 (fun p hp hc => by
      rcases hc with e | ⟨q, h1, h2⟩
      · exact H15.out.not_arr HY5.out.box (by decide) p hp e
      · exact H15.out.not_own HY5.out.waits.own (by decide) p q hp h1 h2.symm))
    clear n4 n2 s4 s2 hq
    have CC := hide (fun (X : World) (g : Grows w6 X) => cloneNy A1 nr c1 r X (H16.out.rd.grows g) (by omega))
    go_upto_region 7 with fail
    go_region_with (go_at_call 56; refine (CC.out _ GG).mono ?_; rintro e w7 ⟨A9, c9, rfl, ho9, hg⟩; obtain ⟨x7, rfl⟩ := hg.later; have H9 := hide ho9; clear ho9 hg)
    all_goals go_wp2_with fail
    all_goals
      have hg7 : Grows w6 x7.now := GG
      have hq := HB.out
      have hz3 := HT3.out.size
      have hz5 := HT5.out.size
      have hz6 := HQ.out.2.2.1.size
      have hl3 := HL3.out
      have hlc := HLC.out
      have hgw := HGW.out
      have t7 : Touch (fun j => j = b2) x7.now ((x7.now.setCell ⟨b2, 0, none⟩ (.slice A9 nr c9)).setCell ⟨b2, 1, none⟩ (.int .u64 (fr : Int))) := ((Touch.refl (fun j => j = b2) x7.now).set (p := ⟨b2, 0, none⟩) (.inl rfl) _).set (p := ⟨b2, 1, none⟩) (.inl rfl) _
      have t8 : Touch (fun j => j = b2) w6 ((x7.now.setCell ⟨b2, 0, none⟩ (.slice A9 nr c9)).setCell ⟨b2, 1, none⟩ (.int .u64 (fr : Int))) := (hg7.touch _).trans t7
      have hz8 := t8.size
      have f1 := HQ.out.1.touch t8 (show ¬ b = b2 by omega) (fun p hp he => HQ.out.1.gr.not_arr v2 (by decide) p hp he) (fun p hp he => by
        have he : p.block = b2 := he
        rcases HP5.out p hp with ⟨q, h3, h4⟩ | h3
        · have := HTLT.out q h3
          omega
        · have := h3.1
          omega) (fun p hp he => by
        have he : p.block = b2 := he
        rcases HQ.out.2.2.2 p hp with ⟨q, h3, h4⟩ | h3
        · injection h3 with h3
          subst h3
          have h4 : gw = p.block := h4
          omega
        · have := h3.1
          omega) (fun x hx p hp he => by
        rcases hx with hx | hx
        · exact (HQ.out.1.told.rows x hx).not_arr v2 (by decide) p hp he
        · exact (HQ.out.1.waits.rows x hx).not_arr v2 (by decide) p hp he)
      have f2 := (H9.out.touch t7 (fun p hp he => H9.out.not_arr (v2.grow hg7) (by decide) p hp he)).base (B' := 0) (Nat.zero_le _)
      have f3 : Touch (fun k => k = b ∨ (∃ p, At = some p ∧ p.block = k) ∨ ∃ p, (some (⟨gw, 0, none⟩ : Addr)) = some p ∧ p.block = k) w ((x7.now.setCell ⟨b2, 0, none⟩ (.slice A9 nr c9)).setCell ⟨b2, 1, none⟩ (.int .u64 (fr : Int))) := by
        refine (((HT3.out.mono (fun k hk => hk.imp id .inr)).trans (HT5.out.mono (fun k hk => hk.imp id .inl))).trans (HQ.out.2.2.1.mono (fun k hk => hk.imp id .inr))).trans2 t8 (fun k hk => .inr ?_)
        have hk : k = b2 := hk
        omega
      have f4 : ∀ p, (A5 = some p ∨ Aw6 = some p) → (∃ q, (At = some q ∨ (some (⟨gw, 0, none⟩ : Addr)) = some q) ∧ q.block = p.block) ∨ New w ((x7.now.setCell ⟨b2, 0, none⟩ (.slice A9 nr c9)).setCell ⟨b2, 1, none⟩ (.int .u64 (fr : Int))) p.block := fun p hp => by
        rcases hp with hp | hp
        · rcases HP5.out p hp with ⟨q, h3, h4⟩ | h3
          · exact .inl ⟨q, .inl h3, h4⟩
          · exact .inr ⟨by have := h3.1; omega, by have := h3.2; omega⟩
        · rcases HQ.out.2.2.2 p hp with ⟨q, h3, h4⟩ | h3
          · exact .inl ⟨q, .inr h3, h4⟩
          · exact .inr ⟨by have := h3.1; omega, by have := h3.2; omega⟩
      have HF := hide (And.intro f1 (And.intro f2 (And.intro f3 f4)))
      clear f1 f2 f3 f4 t7 t8 hg7 hq
      exact bodyPost_ret (v := .tuple #[.agg #[.slice A9 nr c9, .int .u64 (fr : Int)], .bool true]) (by simp (maxDischargeDepth := 6) [results, Tryz.results29, go_sem]) rfl ⟨A9, c9, rfl, HF.out.2.1, A5, c5, _, Aw6, cw6, rsW6, W6, HF.out.1, YL.end_ (by rw [HNR.out]; exact HQ.out.2.1), HF.out.2.2.1, HF.out.2.2.2⟩
end Go.Proofs.YtgplpgldhoelcaaGreat

