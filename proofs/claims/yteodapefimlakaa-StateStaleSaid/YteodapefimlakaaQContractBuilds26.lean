/- The law ContractBuilds: for every input it returns true, and each argument reads as before. No condition. -/
import Derived.Test.YteodapefimlakaaQContractBuilds23
import Derived.Test.YteodapefimlakaaQContractBuilds25
import Derived.Test.YteodapefimlakaaQContractBuilds22
import Derived.Test.YteodapefimlakaaQContractBuilds09
/- The law's walk: what is built of any graph is a hierarchy of it. -/
namespace Go.Proofs.Yteodapefimlakaa
open Go Go.RowKit
attribute [local go_sem] Oper.semAt_some
set_option maxHeartbeats 1000000 in
theorem lRight20 (hops settles : Int) (A : Option Addr) (n c : Nat) (l : List Int) (w : World) (h : Rd w A 1 n (l.map (.int .i64))) (hn : n ≤ 1000000) :
    Calls Try.prog 30 #[.agg #[.int .i64 hops, .int .i64 settles, .slice A n c]] w fun e w' => e = .returned (.bool (coRB hops settles l)) ∧ Grows w w' := by
  have C3 := hide (fun (W : World) (g : Grows w W) => r18Right A n c l W (h.grows g) hn)
  have HV : Hid (coRB hops settles l = (decide (1 ≤ hops ∧ hops ≤ 1000 ∧ 1 ≤ settles ∧ settles ≤ 1000) && rkB l)) := rfl
  clear h
  generalize rkB l = b3 at *
  go_enter Try.func30, Try.ntmps30
  go_wp2_with (go_at_call 40; refine (C3.out _ GG).mono ?_; rintro e w' ⟨rfl, hg⟩; obtain ⟨x1, rfl⟩ := hg.later; clear hg)
  all_goals go_ret
  all_goals exact ⟨ret_bool (by rw [HV.out]; first | rfl | (cases b3 <;> simp [*] <;> omega)), GG⟩
theorem goAll_small {N hops settles : Nat} {E : List Edg} {r vs : List Nat} (h : rightF N E = 0) (hN : N ≤ 12) (hE : E.length ≤ 40) (hi : InvR N r vs) : (Ctr.goAll hops settles vs (ctrG N E)).S.length ≤ 2000 ∧ ∀ i, i < (Ctr.goAll hops settles vs (ctrG N E)).S.length → (gs (Ctr.goAll hops settles vs (ctrG N E)).S i).w ≤ 17592186044416 := by
  have hW : ∀ i, i < E.length → (ge E i).w.toNat ≤ 4294967296 := fun i hi => by have := (right_in h).2.2.2.2 i hi; omega
  have hb := goAll_b h (right_ne h) hW (hops := hops) (settles := settles) vs.length vs rfl hi.nodup hi.lt
  have hl := hi.vl
  rw [hl] at hb
  have h2 : 2 ^ N ≤ 2 ^ 12 := Nat.pow_le_pow_right (by omega) (by omega)
  have h3 : N * N ≤ 12 * 12 := Nat.mul_le_mul hN hN
  have h4 : N * (N * N) ≤ 12 * (12 * 12) := Nat.mul_le_mul (by omega) h3
  have h5 : 2 ^ N * 4294967296 ≤ 2 ^ 12 * 4294967296 := Nat.mul_le_mul h2 (Nat.le_refl _)
  exact ⟨Nat.le_trans hb.len (by omega), fun i hi => Nat.le_trans (hb.sw i hi) (by omega)⟩
theorem wrap_sum (a b : Nat) (h : a ≤ 17592186044416) (k : b ≤ 17592186044416) : IntKind.u64.wrap ((a : Int) + (b : Int)) = (a : Int) + (b : Int) := by
  unfold IntKind.wrap
  simp [IntKind.signed, IntKind.bits]
  omega
theorem madeL_si {N : Nat} {E : List Edg} {r : List Nat} {S : List Sc} (hok : rightF N E = 0) (hrl : r.length = N) (h : MadeL N E r S) (hw : ∀ i, i < S.length → (gs S i).w ≤ 17592186044416) : ∀ i, i < S.length → madeOne E (nvI r) (S.map Sc.si) i = true := by
  intro i hi
  obtain ⟨e1, e2, e3⟩ := h.ends i hi
  have hgi : ∀ v, v < N → gi (nvI r) v = (gn r v : Int) := fun v hv => nvI_gi r v (by rw [hrl]; exact hv)
  unfold madeOne
  rw [gsi_of hi]
  rcases h.made i hi with ⟨e, he, hs⟩ | ⟨h1, A, B, h2, h3, h4, h5, h6, h7, h8, h9, h10, h11⟩
  · obtain ⟨_, _, _, r4, r5⟩ := right_in hok
    have q1 := (r4.f e he).2
    have q2 := (r4.t e he).2
    have q3 := (r5 e he).1
    rw [hs]
    have : edgeSB E (Sc.si ⟨fN E e, tN E e, (ge E e).w.toNat, (e : Int), -1, -1⟩) = true := by
      unfold edgeSB Sc.si
      simp only [Int.toNat_natCast, Bool.and_eq_true, decide_eq_true_eq, beq_iff_eq]
      refine ⟨⟨by omega, by omega, ?_, ?_⟩, q1, q2, by omega⟩ <;> trivial
    rw [this]
    rfl
  · have : twoSB (nvI r) (S.map Sc.si) i = true := by
      have hA : A < S.length := by omega
      have hB : B < S.length := by omega
      have gA := gsi_of (L := S) hA
      have gB := gsi_of (L := S) hB
      have gI := gsi_of (L := S) hi
      unfold twoSB
      rw [gI]
      have ea : (gs S i).si.a = (A : Int) := h2
      have eb : (gs S i).si.b = (B : Int) := h3
      rw [ea, eb, Int.toNat_natCast, Int.toNat_natCast, gA, gB]
      have hAt := (h.ends A hA).2.1
      have hs := wrap_sum (gs S A).w (gs S B).w (hw A hA) (hw B hB)
      unfold Sc.si
      dsimp only
      rw [hs]
      simp only [Int.toNat_natCast, Bool.and_eq_true, decide_eq_true_eq, ne_eq]
      rw [hgi _ hAt, hgi _ e1, hgi _ e2]
      exact ⟨⟨h1, by omega, by omega, by omega, by omega, by omega⟩, ⟨by omega, by omega, by omega, by omega⟩, by omega, by omega⟩
    rw [this, Bool.or_true]
def E20 : List Edg := [⟨0, 1, 1⟩, ⟨1, 2, 1⟩]
def r20 : List Nat := [1, 0, 2]
theorem ok20 : rightF (3 : Nat) E20 = 0 := by decide
theorem dF20 : dF 3 E20 0 2 = 2 := by decide +kernel
theorem bl20 : gn (refL (srchOf 3 E20 (noN (nvI (noBelow 3 r20 0 2)))) 0) 2 = 2 := by decide +kernel
theorem has20 {vs : List Nat} (hi : InvR 3 r20 vs) : hasK (Ctr.goAll 9 9 vs (ctrG 3 E20)).S 0 2 2 (Ctr.goAll 9 9 vs (ctrG 3 E20)).S.length = true := by
  obtain ⟨i, h1, h2, h3, h4⟩ := built_fullL (hops := 9) (settles := 9) ok20 (right_ne ok20) hi 0 2 (by omega) (by omega) (by omega) (by rw [dF20]; decide) (by rw [dF20]; exact bl20)
  rw [dF20] at h4
  exact hasK_is h2 h3 (by rw [h4]; rfl) _ h1
set_option maxRecDepth 20000 in
set_option maxHeartbeats 4000000 in
theorem alive20 (w : World) : Calls Try.prog 28 #[] w fun e w' => e = .returned (.bool true) ∧ Grows w w' := by
  have CB := hide (fun (b1 b2 : Nat) (W : World) (h1 : Rd W (some ⟨b1, 0, none⟩) 3 2 (esCells E20)) (h2 : Rd W (some ⟨b2, 0, none⟩) 1 3 (nv r20)) => coBuildRank 3 (some ⟨b1, 0, none⟩) 2 2 E20 9 9 (some ⟨b2, 0, none⟩) 3 r20 W h1 ok20 h2 (by decide) (by omega) (by decide))
  have CS := hide (fun (A B : Option Addr) (c d : Nat) (W : World) (h1 : Rd W A 1 3 (nv r20)) (h2 : Rd W B 1 3 (nv r20)) => by
    have := r1Same A 3 c (nvI r20) B 3 d (nvI r20) W (by rw [← nvI_vals]; exact h1) (by omega) (by rw [← nvI_vals]; exact h2) (by omega)
    rw [decide_eq_true rfl] at this
    exact this)
  unfold GiveH at CB
  go_enter Try.func28, Try.ntmps28
  go_wp2_with fail
  have e1 : Rd ((w.alloc (.cells #[.int .i64 0, .int .i64 1, .int .u64 1, .int .i64 1, .int .i64 2, .int .u64 1] 96)).alloc (.cells #[.int .i64 1, .int .i64 0, .int .i64 2] 3)) (some ⟨w.heap.size, 0, none⟩) 3 2 (esCells E20) :=
    (((Arr.make w [.int .i64 0, .int .i64 1, .int .u64 1, .int .i64 1, .int .i64 2, .int .u64 1] 96).grow ((Grows.refl _).new _)).row (n := 2) (size := 3) rfl (by omega)).rd
  have e2 : Rd ((w.alloc (.cells #[.int .i64 0, .int .i64 1, .int .u64 1, .int .i64 1, .int .i64 2, .int .u64 1] 96)).alloc (.cells #[.int .i64 1, .int .i64 0, .int .i64 2] 3)) (some ⟨w.heap.size + 1, 0, none⟩) 1 3 (nv r20) := by
    have h1 := ((Arr.make (w.alloc (.cells #[.int .i64 0, .int .i64 1, .int .u64 1, .int .i64 1, .int .i64 2, .int .u64 1] 96)) [.int .i64 1, .int .i64 0, .int .i64 2] 3).row (n := 3) (size := 1) rfl (by omega)).rd
    rw [show (w.alloc (.cells #[.int .i64 0, .int .i64 1, .int .u64 1, .int .i64 1, .int .i64 2, .int .u64 1] 96)).heap.size = w.heap.size + 1 by simp] at h1
    exact h1
  have hgw : Grows w ((w.alloc (.cells #[.int .i64 0, .int .i64 1, .int .u64 1, .int .i64 1, .int .i64 2, .int .u64 1] 96)).alloc (.cells #[.int .i64 1, .int .i64 0, .int .i64 2] 3)) := ((Grows.refl _).new _).new _
  generalize (w.alloc (.cells #[.int .i64 0, .int .i64 1, .int .u64 1, .int .i64 1, .int .i64 2, .int .u64 1] 96)).alloc (.cells #[.int .i64 1, .int .i64 0, .int .i64 2] 3) = W1 at *
  generalize w.heap.size + 1 = b2 at *
  generalize w.heap.size = b1 at *
  obtain ⟨y1, rfl⟩ := hgw.later
  clear hgw
  go_at_call 25
  refine (CB.out b1 b2 _ e1 e2).mono ?_
  rintro e w' ⟨gr, cr, As, cs, r, vs, rfl, hI, rfl, hrow, hrd, _, hg⟩
  obtain ⟨y2, rfl⟩ := hg.later
  have HH := hide (has20 hI)
  have hsm := (goAll_small (hops := 9) (settles := 9) ok20 (by omega) (by decide) hI).1
  have HROW := hide hrow
  have HRD := hide (show Rd y2.now As 6 (Ctr.goAll 9 9 vs (ctrG 3 E20)).S.length (sis ((Ctr.goAll 9 9 vs (ctrG 3 E20)).S.map Sc.si)) by rw [← sis_of]; exact hrd)
  clear hg hrow hrd CB e1 e2 hI
  generalize (Ctr.goAll 9 9 vs (ctrG 3 E20)).S = S at *
  obtain ⟨n2, hn2⟩ : ∃ n2, n2 = S.length := ⟨_, rfl⟩
  rw [← hn2] at HH HRD hsm ⊢
  have HN2 := hide hn2
  clear hn2
  go_wp2_with fail
  have e1 : Arr ((y2.now.alloc (.cells #[.slice (some ⟨gr, 0, none⟩) 3 cr, .slice As n2 cs] 28)).alloc (.cells #[.int .i64 1, .int .i64 0, .int .i64 2] 3)) y2.now.heap.size 28 [.slice (some ⟨gr, 0, none⟩) 3 cr, .slice As n2 cs] := (Arr.make _ _ _).grow ((Grows.refl _).new _)
  have e2 : Rd ((y2.now.alloc (.cells #[.slice (some ⟨gr, 0, none⟩) 3 cr, .slice As n2 cs] 28)).alloc (.cells #[.int .i64 1, .int .i64 0, .int .i64 2] 3)) (some ⟨y2.now.heap.size + 1, 0, none⟩) 1 3 (nv r20) := by
    have h1 := ((Arr.make (y2.now.alloc (.cells #[.slice (some ⟨gr, 0, none⟩) 3 cr, .slice As n2 cs] 28)) [.int .i64 1, .int .i64 0, .int .i64 2] 3).row (n := 3) (size := 1) rfl (by omega)).rd
    rw [show (y2.now.alloc (.cells #[.slice (some ⟨gr, 0, none⟩) 3 cr, .slice As n2 cs] 28)).heap.size = y2.now.heap.size + 1 by simp] at h1
    exact h1
  have e3 : Grows y2.now ((y2.now.alloc (.cells #[.slice (some ⟨gr, 0, none⟩) 3 cr, .slice As n2 cs] 28)).alloc (.cells #[.int .i64 1, .int .i64 0, .int .i64 2] 3)) := ((Grows.refl _).new _).new _
  have CS2 := hide (CS.out _ _ cr 3 _ (HROW.out.rd.grows e3) e2)
  have HRD2 := hide (HRD.out.grows e3)
  have hgw : Grows w ((y2.now.alloc (.cells #[.slice (some ⟨gr, 0, none⟩) 3 cr, .slice As n2 cs] 28)).alloc (.cells #[.int .i64 1, .int .i64 0, .int .i64 2] 3)) := (y1.grows.trans y2.grows).trans e3
  clear CS HROW HRD e2 e3
  generalize (y2.now.alloc (.cells #[.slice (some ⟨gr, 0, none⟩) 3 cr, .slice As n2 cs] 28)).alloc (.cells #[.int .i64 1, .int .i64 0, .int .i64 2] 3) = W3 at *
  generalize y2.now.heap.size + 1 = b6 at *
  generalize y2.now.heap.size = b5 at *
  go_wp2_with (go_at_call 23; refine (CS2.out).mono ?_; rintro e w' ⟨rfl, hg⟩; obtain ⟨y3, rfl⟩ := hg.later; clear hg)
  go_loopw [3, 4] (fun s8 i wr => ∃ j : Nat, j ≤ n2 ∧ i = .int .i64 (j : Int) ∧ s8 = .bool (hasK S 0 2 2 j) ∧ ∃ y4 : Later y3.now, wr = y4.now) (fun _ i _ => n2 - (Go.RowKit.intOf i).toNat)
  case atStart => exact ⟨0, by omega, by go_num, rfl, ⟨_, Grows.refl _⟩, rfl⟩
  case round =>
    obtain ⟨j, hj, rfl, rfl, y4, rfl⟩ := hrel
    by_cases hlj : j < n2
    · have HH0 : Hid (hasK S 0 2 2 (j + 1) = (hasK S 0 2 2 j || (decide ((gs S j).f = 0) && decide ((gs S j).t = 2) && decide (((gs S j).w : Int) = 2)))) := rfl
      obtain ⟨bb, off, rfl, hcc⟩ := HRD2.out.siH (by omega)
      obtain ⟨c1, c2, c3, _, _, _⟩ := hcc j hlj
      rw [gsi_of (by rw [← HN2.out]; exact hlj)] at c1 c2 c3
      unfold Sc.si at c1 c2 c3
      dsimp only at c1 c2 c3
      clear hcc
      generalize hasK S 0 2 2 j = hj0 at *
      obtain ⟨sf, hsf⟩ : ∃ sf : Int, sf = ((gs S j).f : Int) := ⟨_, rfl⟩
      obtain ⟨st, hst⟩ : ∃ st : Int, st = ((gs S j).t : Int) := ⟨_, rfl⟩
      obtain ⟨sw, hsw⟩ : ∃ sw : Int, sw = ((gs S j).w : Int) := ⟨_, rfl⟩
      have HQ := hide (show decide ((gs S j).f = 0) = decide (sf = 0) ∧ decide ((gs S j).t = 2) = decide (st = 2) by rw [hsf, hst]; exact ⟨decide_eq_decide.2 (by omega), decide_eq_decide.2 (by omega)⟩)
      rw [HQ.out.1, HQ.out.2, ← hsw] at HH0
      rw [← hsf] at c1
      rw [← hst] at c2
      rw [← hsw] at c3
      clear hsw hsf hst
      cases hj0 with
      | true =>
        have HH : Hid (hasK S 0 2 2 (j + 1) = true) := hide (by rw [HH0.out]; rfl)
        go_wp2_with fail
        exact ⟨⟨j + 1, by omega, by go_num, by rw [HH.out], ⟨_, GG⟩, rfl⟩, by simp [Go.RowKit.intOf]; omega⟩
      | false =>
        by_cases q1 : sf = 0
        · by_cases q2 : st = 2
          · by_cases q3 : sw = 2
            · have HH : Hid (hasK S 0 2 2 (j + 1) = true) := hide (by rw [HH0.out]; simp [q1, q2, q3])
              subst q1 q2 q3
              go_wp2_with fail
              exact ⟨⟨j + 1, by omega, by go_num, by rw [HH.out], ⟨_, GG⟩, rfl⟩, by simp [Go.RowKit.intOf]; omega⟩
            · have HH : Hid (hasK S 0 2 2 (j + 1) = false) := hide (by rw [HH0.out]; simp [q3])
              have q4 : (sw == 2) = false := by simpa using q3
              subst q1 q2
              clear q3
              go_wp2_with fail
              exact ⟨⟨j + 1, by omega, by go_num, by rw [HH.out], ⟨_, GG⟩, rfl⟩, by simp [Go.RowKit.intOf]; omega⟩
          · have HH : Hid (hasK S 0 2 2 (j + 1) = false) := hide (by rw [HH0.out]; simp [q2])
            have q4 : (st == 2) = false := by simpa using q2
            subst q1
            clear q2
            go_wp2_with fail
            exact ⟨⟨j + 1, by omega, by go_num, by rw [HH.out], ⟨_, GG⟩, rfl⟩, by simp [Go.RowKit.intOf]; omega⟩
        · have HH : Hid (hasK S 0 2 2 (j + 1) = false) := hide (by rw [HH0.out]; simp [q1])
          have q4 : (sf == 0) = false := by simpa using q1
          clear q1
          go_wp2_with fail
          exact ⟨⟨j + 1, by omega, by go_num, by rw [HH.out], ⟨_, GG⟩, rfl⟩, by simp [Go.RowKit.intOf]; omega⟩
    · obtain rfl : j = n2 := by omega
      have hk := HH.out
      rw [hk]
      clear hk
      go_wp2_with fail
      go_ret
      exact ⟨rfl, GG⟩
theorem light20_of {N : Int} {n : Nat} (h : light20B N n = true) : (N ≤ 12 ∨ 4096 < N) ∧ n ≤ 40 := by
  unfold light20B at h
  simp at h
  omega
theorem GiveH.mono {w : World} {N hops settles : Nat} {E : List Edg} {rk rk' : List Nat → Prop} {e : Ending} {w' : World} (h : GiveH w N hops settles E rk e w') (hr : ∀ r, rk r → rk' r) : GiveH w N hops settles E rk' e w' := by
  obtain ⟨gr, cr, As, cs, r, vs, h1, h2, h3, h4⟩ := h
  exact ⟨gr, cr, As, cs, r, vs, h1, h2, hr r h3, h4⟩
theorem coBuildAny (N : Nat) (A : Option Addr) (n c : Nat) (E : List Edg) (hops settles : Nat) (B : Option Addr) (m d : Nat) (l : List Int) (w : World) (h : Rd w A 3 n (esCells E)) (hok : rightF N E = 0) (hl : Rd w B 1 m (l.map (.int .i64))) (hor : coRB hops settles l = true) (hN : N ≤ 12) (hn : n ≤ 40) (hm : m = 0 ∨ m = N) :
    Calls Try.prog 25 #[.agg #[.int .i64 (N : Int), .slice A n c], .agg #[.int .i64 (hops : Int), .int .i64 (settles : Int), .slice B m d]] w (GiveH w N hops settles E (fun r => 0 < m → nvI r = l)) := by
  have hel := h.elen
  have hll : l.length = m := by simpa using hl.len
  by_cases h0 : m = 0
  · subst h0
    have e : l = [] := List.length_eq_zero_iff.1 hll
    subst e
    exact (coBuildOrd N A n c E hops settles B d w h hok hor hN (by omega)).mono fun e w' hg => hg.mono (fun r _ h => absurd h (by omega))
  · have hmN := hm.resolve_left h0
    subst hmN
    have hrk : rkB l = true := by unfold coRB at hor; simp at hor; exact hor.2
    obtain ⟨r, rfl, _, _⟩ := rk_nat hrk
    exact (coBuildRank m A n c E hops settles B d r w h hok (by rw [nvI_vals]; exact hl) hor hN (by omega)).mono fun e w' hg => hg.mono (fun r' h _ => by rw [h])
theorem built_ok {N hops settles : Nat} {E : List Edg} {r vs : List Nat} (hok : rightF N E = 0) (hN : N ≤ 12) (hE : E.length ≤ 40) (hi : InvR N r vs) : madeSB N E (nvI r) ((Ctr.goAll hops settles vs (ctrG N E)).S.map Sc.si) = true ∧ FullL N E r (Ctr.goAll hops settles vs (ctrG N E)).S ∧ (Ctr.goAll hops settles vs (ctrG N E)).S.length ≤ 2000 := by
  obtain ⟨h1, h2⟩ := goAll_small (hops := hops) (settles := settles) hok hN hE hi
  refine ⟨?_, built_fullL hok (right_ne hok) hi, h1⟩
  have hm := madeL_si hok hi.rl (built_made hok (right_ne hok) hi) h2
  unfold madeSB
  have e1 : (nvI r).length = N := by unfold nvI; rw [List.length_map]; exact hi.rl
  have e2 : rkB (nvI r) = true := rkB_nat hi.symm.nodup (by rw [hi.rl]; exact hi.symm.lt)
  rw [e1, e2, decide_eq_true rfl, Bool.true_and, Bool.true_and]
  exact decide_eq_true (fun i hi => hm i (by simpa using hi))
set_option maxRecDepth 40000 in
set_option maxHeartbeats 8000000 in
theorem contractBuildsW (N : Int) (A : Option Addr) (n c : Nat) (E : List Edg) (hops settles : Int) (B : Option Addr) (m d : Nat) (l : List Int) (w : World) (_ : I64 N) (_ : n ≤ c) (h : Rd w A 3 n (esCells E)) (_ : ∀ k, k < n → edgOk (ge E k)) (_ : I64 hops) (_ : I64 settles) (_ : m ≤ d) (hl : Rd w B 1 m (l.map (.int .i64))) (_ : ∀ z ∈ l, (Lit.int .i64 z).wf = true) :
    Calls Try.prog 5 #[.agg #[.int .i64 N, .slice A n c], .agg #[.int .i64 hops, .int .i64 settles, .slice B m d]] w fun e w' => e = .returned (.bool true) ∧ Grows w w' := by
  have CL := hide (fun (W : World) => lLight20 N A n c W)
  have CA := hide (fun (W : World) => alive20 W)
  cases hlb : light20B N n with
  | false =>
    rw [hlb] at CL
    clear h hl hlb
    go_enter Try.func5, Try.ntmps5
    go_wp2_with (first
      | (go_at_call 9; refine (CL.out _).mono ?_; rintro e w' ⟨rfl, hg⟩; obtain ⟨x1, rfl⟩ := hg.later; clear hg)
      | (go_at_call 28; refine (CA.out _).mono ?_; rintro e w' ⟨rfl, hg⟩; obtain ⟨x2, rfl⟩ := hg.later; clear hg))
    go_ret
    exact ⟨rfl, GG⟩
  | true =>
    rw [hlb] at CL
    obtain ⟨hN, hn⟩ := light20_of hlb
    clear hlb
    by_cases hm : 60 < m
    · have hmb : (60 : Int) < (m : Int) := by omega
      clear h hl hN hn
      go_enter Try.func5, Try.ntmps5
      go_wp2_with (first
        | (go_at_call 9; refine (CL.out _).mono ?_; rintro e w' ⟨rfl, hg⟩; obtain ⟨x1, rfl⟩ := hg.later; clear hg)
        | (go_at_call 28; refine (CA.out _).mono ?_; rintro e w' ⟨rfl, hg⟩; obtain ⟨x2, rfl⟩ := hg.later; clear hg))
      go_ret
      exact ⟨rfl, GG⟩
    · have CR := hide (fun (W : World) (g : Grows w W) => r5Right N A n c E W (h.grows g) (by omega))
      have CO := hide (fun (W : World) (g : Grows w W) => lRight20 hops settles B m d l W (hl.grows g) (by omega))
      by_cases hbad : rightF N E ≠ 0 ∨ coRB hops settles l = false
      · have CB := hide (fun (W : World) (g : Grows w W) => coBuildBad N A n c E hops settles B m d l W (h.grows g) (by omega) (hl.grows g) (by omega) hbad)
        by_cases h0 : rightF N E = 0
        · have hb := hbad.resolve_left (fun e => e h0)
          rw [h0] at CR
          rw [hb] at CO
          clear h hl hN hn hbad h0 hb
          go_enter Try.func5, Try.ntmps5
          go_wp2_with (first
            | (go_at_call 9; refine (CL.out _).mono ?_; rintro e w' ⟨rfl, hg⟩; obtain ⟨x1, rfl⟩ := hg.later; clear hg)
            | (go_at_call 25; refine (CB.out _ GG).mono ?_; rintro e w' ⟨rfl, hg⟩; obtain ⟨x2, rfl⟩ := hg.later; clear hg)
            | (go_at_call 29; refine (CR.out _ GG).mono ?_; rintro e w' ⟨rfl, hg⟩; obtain ⟨x3, rfl⟩ := hg.later; clear hg)
            | (go_at_call 30; refine (CO.out _ GG).mono ?_; rintro e w' ⟨rfl, hg⟩; obtain ⟨x4, rfl⟩ := hg.later; clear hg)
            | (go_at_call 28; refine (CA.out _).mono ?_; rintro e w' ⟨rfl, hg⟩; obtain ⟨x5, rfl⟩ := hg.later; clear hg))
          go_ret
          exact ⟨rfl, GG⟩
        · have hb : (rightF N E != 0) = true := by simpa using h0
          clear h hl hN hn hbad h0
          generalize rightF N E = r at *
          go_enter Try.func5, Try.ntmps5
          go_wp2_with (first
            | (go_at_call 9; refine (CL.out _).mono ?_; rintro e w' ⟨rfl, hg⟩; obtain ⟨x1, rfl⟩ := hg.later; clear hg)
            | (go_at_call 25; refine (CB.out _ GG).mono ?_; rintro e w' ⟨rfl, hg⟩; obtain ⟨x2, rfl⟩ := hg.later; clear hg)
            | (go_at_call 29; refine (CR.out _ GG).mono ?_; rintro e w' ⟨rfl, hg⟩; obtain ⟨x3, rfl⟩ := hg.later; clear hg)
            | (go_at_call 28; refine (CA.out _).mono ?_; rintro e w' ⟨rfl, hg⟩; obtain ⟨x5, rfl⟩ := hg.later; clear hg))
          go_ret
          exact ⟨rfl, GG⟩
      · have hok : rightF N E = 0 := Decidable.byContradiction fun e => hbad (.inl e)
        have hor : coRB hops settles l = true := by
          cases hb : coRB hops settles l with
          | true => rfl
          | false => exact absurd (.inr hb) hbad
        clear hbad
        by_cases hrg : 0 < m ∧ (m : Int) ≠ N
        · obtain ⟨hm0, hmN⟩ := hrg
          have CB := hide (fun (W : World) (g : Grows w W) => coBuildRange N A n c E hops settles B m d l W (h.grows g) (by omega) (hl.grows g) (by omega) hok hor hm0 hmN)
          have hb : ((m : Int) != N) = true := by simpa using hmN
          rw [hok] at CR
          rw [hor] at CO
          clear h hl hN hn hok hor hmN
          go_enter Try.func5, Try.ntmps5
          go_wp2_with (first
            | (go_at_call 9; refine (CL.out _).mono ?_; rintro e w' ⟨rfl, hg⟩; obtain ⟨x1, rfl⟩ := hg.later; clear hg)
            | (go_at_call 25; refine (CB.out _ GG).mono ?_; rintro e w' ⟨rfl, hg⟩; obtain ⟨x2, rfl⟩ := hg.later; clear hg)
            | (go_at_call 29; refine (CR.out _ GG).mono ?_; rintro e w' ⟨rfl, hg⟩; obtain ⟨x3, rfl⟩ := hg.later; clear hg)
            | (go_at_call 30; refine (CO.out _ GG).mono ?_; rintro e w' ⟨rfl, hg⟩; obtain ⟨x4, rfl⟩ := hg.later; clear hg)
            | (go_at_call 28; refine (CA.out _).mono ?_; rintro e w' ⟨rfl, hg⟩; obtain ⟨x5, rfl⟩ := hg.later; clear hg))
          go_ret
          exact ⟨rfl, GG⟩
        · obtain ⟨k, rfl⟩ : ∃ k : Nat, N = (k : Int) := ⟨N.toNat, by have := (right_in hok).1; omega⟩
          have hk : k ≤ 12 := by have := (right_in hok).2.1; omega
          have hlim : (1 ≤ hops ∧ hops ≤ 1000 ∧ 1 ≤ settles ∧ settles ≤ 1000) ∧ rkB l = true := by
            unfold coRB at hor
            simp only [Bool.and_eq_true, decide_eq_true_eq] at hor
            exact hor
          obtain ⟨p, rfl⟩ : ∃ p : Nat, hops = (p : Int) := ⟨hops.toNat, by omega⟩
          obtain ⟨q, rfl⟩ : ∃ q : Nat, settles = (q : Int) := ⟨settles.toNat, by omega⟩
          have hmm : m = 0 ∨ m = k := by omega
          have hel := h.elen
          have CB := hide (fun (W : World) (g : Grows w W) => coBuildAny k A n c E p q B m d l W (h.grows g) hok (hl.grows g) hor hk hn hmm)
          have CK := hide (fun (W : World) (g : Grows w W) => coRight p q B m d l W (hl.grows g) (by omega))
          have CM := hide (fun (r vs : List Nat) (gr cr : Nat) (As : Option Addr) (cs : Nat) (W : World) (g : Grows w W) (hi : InvR k r vs) (hrow : Rd W (some ⟨gr, 0, none⟩) 1 k (nv r)) (hrd : Rd W As 6 (Ctr.goAll p q vs (ctrG k E)).S.length (hss (Ctr.goAll p q vs (ctrG k E)).S)) => by
            obtain ⟨b1, b2, b3⟩ := built_ok (hops := p) (settles := q) hok hk (by omega) hi
            have := r20Made k A n c E (some ⟨gr, 0, none⟩) k cr (nvI r) As (Ctr.goAll p q vs (ctrG k E)).S.length cs ((Ctr.goAll p q vs (ctrG k E)).S.map Sc.si) W (h.grows g) (by omega) hok (by rw [← nvI_vals]; exact hrow) (by omega) (by rw [← sis_of]; exact hrd) (by omega)
            rw [b1] at this
            exact this)
          have CF := hide (fun (r vs : List Nat) (gr cr : Nat) (As : Option Addr) (cs : Nat) (W : World) (g : Grows w W) (hi : InvR k r vs) (hrow : Rd W (some ⟨gr, 0, none⟩) 1 k (nv r)) (hrd : Rd W As 6 (Ctr.goAll p q vs (ctrG k E)).S.length (hss (Ctr.goAll p q vs (ctrG k E)).S)) => by
            obtain ⟨b1, b2, b3⟩ := built_ok (hops := p) (settles := q) hok hk (by omega) hi
            have := r20Full k A c E (some ⟨gr, 0, none⟩) cr r As cs _ W (by rw [hel]; exact h.grows g) hok hrow hrd (by omega) b2
            rw [hel] at this
            exact this)
          have CS := hide (fun (r : List Nat) (gr cr : Nat) (W : World) (g : Grows w W) (hrow : Rd W (some ⟨gr, 0, none⟩) 1 k (nv r)) (he : nvI r = l) => by
            have := r1Same (some ⟨gr, 0, none⟩) k cr (nvI r) B m d l W (by rw [← nvI_vals]; exact hrow) (by omega) (hl.grows g) (by omega)
            rw [decide_eq_true he] at this
            exact this)
          rw [hok] at CR
          rw [hor] at CO CK
          unfold GiveH at CB
          clear h hl hN hn hok hor hlim hel hrg
          by_cases h0 : m = 0
          · subst h0
            go_enter Try.func5, Try.ntmps5
            go_upto_region 4 with (first
              | (go_at_call 9; refine (CL.out _).mono ?_; rintro e w' ⟨rfl, hg⟩; obtain ⟨x1, rfl⟩ := hg.later; clear hg)
              | (go_at_call 25; refine (CB.out _ GG).mono ?_; rintro e w' ⟨gr, cr, As, cs, r, vs, rfl, hI, hrk, hrow, hrd, _, hg⟩; obtain ⟨x2, rfl⟩ := hg.later; have HI := hide hI; have HRK := hide hrk; have HROW := hide hrow; have HRD := hide hrd; clear hI hrk hrow hrd hg))
            have hgw : Grows w x2.now := GG
            have CM2 := hide (fun (W : World) (g : Grows x2.now W) => CM.out r vs gr cr As cs W (hgw.trans g) HI.out (HROW.out.rd.grows g) (HRD.out.grows g))
            have CF2 := hide (fun (W : World) (g : Grows x2.now W) => CF.out r vs gr cr As cs W (hgw.trans g) HI.out (HROW.out.rd.grows g) (HRD.out.grows g))
            clear CM CF CS CB HRD HRK HI HROW
            generalize (Ctr.goAll p q vs (ctrG k E)).S.length = n2 at *
            go_wp2_with (first
              | (go_at_call 29; refine (CR.out _ GG).mono ?_; rintro e w' ⟨rfl, hg⟩; obtain ⟨x3, rfl⟩ := hg.later; clear hg)
              | (go_at_call 30; refine (CO.out _ GG).mono ?_; rintro e w' ⟨rfl, hg⟩; obtain ⟨x4, rfl⟩ := hg.later; clear hg)
              | (go_at_call 31; refine (CM2.out _ GG).mono ?_; rintro e w' ⟨rfl, hg⟩; obtain ⟨x6, rfl⟩ := hg.later; clear hg)
              | (go_at_call 32; refine (CF2.out _ GG).mono ?_; rintro e w' ⟨rfl, hg⟩; obtain ⟨x7, rfl⟩ := hg.later; clear hg)
              | (go_at_call 33; refine (CK.out _ GG).mono ?_; rintro e w' ⟨rfl, hg⟩; obtain ⟨x8, rfl⟩ := hg.later; clear hg)
              | (go_at_call 28; refine (CA.out _).mono ?_; rintro e w' ⟨rfl, hg⟩; obtain ⟨x9, rfl⟩ := hg.later; clear hg))
            go_ret
            exact ⟨rfl, GG⟩
          · have hm0 : (0 : Int) < (m : Int) := by omega
            have hmk := hmm.resolve_left h0
            subst hmk
            clear hmm h0
            go_enter Try.func5, Try.ntmps5
            go_upto_region 4 with (first
              | (go_at_call 9; refine (CL.out _).mono ?_; rintro e w' ⟨rfl, hg⟩; obtain ⟨x1, rfl⟩ := hg.later; clear hg)
              | (go_at_call 25; refine (CB.out _ GG).mono ?_; rintro e w' ⟨gr, cr, As, cs, r, vs, rfl, hI, hrk, hrow, hrd, _, hg⟩; obtain ⟨x2, rfl⟩ := hg.later; have HI := hide hI; have HRK := hide hrk; have HROW := hide hrow; have HRD := hide hrd; clear hI hrk hrow hrd hg))
            have hgw : Grows w x2.now := GG
            have CM2 := hide (fun (W : World) (g : Grows x2.now W) => CM.out r vs gr cr As cs W (hgw.trans g) HI.out (HROW.out.rd.grows g) (HRD.out.grows g))
            have CF2 := hide (fun (W : World) (g : Grows x2.now W) => CF.out r vs gr cr As cs W (hgw.trans g) HI.out (HROW.out.rd.grows g) (HRD.out.grows g))
            have CS2 := hide (fun (W : World) (g : Grows x2.now W) => CS.out r gr cr W (hgw.trans g) (HROW.out.rd.grows g) (HRK.out (by omega)))
            clear CM CF CS CB HRD HRK HI HROW
            generalize (Ctr.goAll p q vs (ctrG m E)).S.length = n2 at *
            go_wp2_with (first
              | (go_at_call 29; refine (CR.out _ GG).mono ?_; rintro e w' ⟨rfl, hg⟩; obtain ⟨x3, rfl⟩ := hg.later; clear hg)
              | (go_at_call 30; refine (CO.out _ GG).mono ?_; rintro e w' ⟨rfl, hg⟩; obtain ⟨x4, rfl⟩ := hg.later; clear hg)
              | (go_at_call 23; refine (CS2.out _ GG).mono ?_; rintro e w' ⟨rfl, hg⟩; obtain ⟨x5, rfl⟩ := hg.later; clear hg)
              | (go_at_call 31; refine (CM2.out _ GG).mono ?_; rintro e w' ⟨rfl, hg⟩; obtain ⟨x6, rfl⟩ := hg.later; clear hg)
              | (go_at_call 32; refine (CF2.out _ GG).mono ?_; rintro e w' ⟨rfl, hg⟩; obtain ⟨x7, rfl⟩ := hg.later; clear hg)
              | (go_at_call 33; refine (CK.out _ GG).mono ?_; rintro e w' ⟨rfl, hg⟩; obtain ⟨x8, rfl⟩ := hg.later; clear hg)
              | (go_at_call 28; refine (CA.out _).mono ?_; rintro e w' ⟨rfl, hg⟩; obtain ⟨x9, rfl⟩ := hg.later; clear hg))
            go_ret
            exact ⟨rfl, GG⟩
end Go.Proofs.Yteodapefimlakaa

/- The law ContractBuilds: for every input it returns true, and each argument reads as before. No condition. -/
namespace Go.Proofs.Yteodapefimlakaa.lawContractBuilds
open Go Go.ChangeShapes Go.WideShapes Go.ChangeAt Go.RowKit Go.Proofs.Yteodapefimlakaa

theorem own : ownKnob Try.prog.godebug = none := by kernel_rfl
theorem laidOut : laidOutB Try.prog = true := by kernel_rfl

set_option maxRecDepth 100000 in
theorem lifted (os : Os) (started : os.Started) (H : Type) (enc : TypeId × Value → H) :
    ReturnsInHanded {} Try.checked os 5 .any (Rows.contractBuildsSpec.pre6 enc Try.prog Try.f5 Rows.contractBuildsRow.domain false) (Rows.contractBuildsSpec.post enc Try.prog Try.f5 false true false false) := by
  refine returnsInHanded_of_change (C := Try.checked) own started (by kernel_rfl) Try.func5
    (ChangeSpec.witness6 (enc := enc) (C := Try.checked) false ⟨#[], #[.agg #[.int .i64 0, .slice none 0 0], .agg #[.int .i64 0, .int .i64 0, .slice none 0 0]], []⟩ 8 (by kernel_rfl) (by kernel_rfl) (by kernel_rfl) (by kernel_rfl)) ?_
  intro W base args ds gs before hval0 hW hcnd _
  have hval : ∀ (j : Nat) t v, Try.f5.params[j]? = some t → args[j]? = some v → Value.okWide Try.prog W .any base t v := hval0
  have hW' := hW
  obtain ⟨p, q, hA0, hV, rfl, hfz, hnd⟩ := hW
  have hA : DataW.TrodAll enc Try.prog W 0 (fun _ => true) true Try.f5.params.toList args.toList ds p := hA0
  rw [Try.params5] at hA hval
  obtain ⟨v0, vs0, d0, ds0, p0, q0, hargs, rfl, rfl, h0, r0⟩ := trodAll_cons hA
  obtain ⟨v1, vs1, d1, ds1, p1, q1, rfl, rfl, rfl, h1, r1⟩ := trodAll_cons r0
  obtain ⟨rfl, rfl, rfl⟩ := trodAll_nil r1
  obtain rfl : args = #[v0, v1] := by cases args; simp_all
  obtain ⟨rfl, rfl⟩ := trodVars_none hV
  have k0 := h0
  have lt0 : ∀ x ∈ p0, x.block < W.heap.size := by obtain ⟨m, hm⟩ := k0; exact DataW.trod_lt m _ _ _ hm
  obtain ⟨a0, A0, n0, c0, z0, rfl, x0, l0, w0, u0⟩ := open_graph Try.underlying24 Try.underlying3 Try.underlying22 Try.underlying96 Try.underlying3 Try.underlying3 Try.underlying43 ⟨rfl, rfl, rfl⟩ ⟨by kernel_rfl, by kernel_rfl, by kernel_rfl⟩ (by kernel_rfl) (by kernel_rfl) (by kernel_rfl) (hval 0 24 v0 rfl rfl) h0
  have k1 := h1
  have lt1 : ∀ x ∈ p1, x.block < W.heap.size := by obtain ⟨m, hm⟩ := k1; exact DataW.trod_lt m _ _ _ hm
  obtain ⟨a1, b1, A1, n1, c1, z1, rfl, x1, y1, l1, w1, u1⟩ := open_copt Try.underlying54 Try.underlying3 Try.underlying3 Try.underlying25 Try.underlying3 (by kernel_rfl) (by kernel_rfl) (by kernel_rfl) (hval 1 54 v1 rfl rfl) h1
  clear hA0 hval0
  refine (contractBuildsW a0 A0 n0 c0 z0 a1 b1 A1 n1 c1 z1 W x0 l0 w0 u0 x1 y1 l1 w1 u1).mono fun e W' ⟨he, bel⟩ => ?_
  subst he
  exact ⟨_, rfl, _, _, _, [], _, [], hW', trodAll_mk1 (shut_bool Try.underlying4 _), (trodAll_cons_mk (Below.trod laidOut (by kernel_rfl) (of_decide_eq_true (by kernel_rfl)) k0 bel lt0) (trodAll_cons_mk (Below.trod laidOut (by kernel_rfl) (of_decide_eq_true (by kernel_rfl)) k1 bel lt1) trodAll_mk0)), rfl, Below.frame bel _, fun h => by cases h⟩

theorem over : Rows.contractBuildsRow.holds Try.pinned (OpenSpec.ofChange Rows.contractBuildsSpec) :=
  OpenClaim.holds_of_wide 5 Try.f5 rfl rfl rfl rfl rfl rfl rfl ⟨rfl, rfl, rfl, rfl, rfl⟩ rfl rfl rfl rfl rfl (by kernel_rfl) Try.func5 (by kernel_rfl)
    (of_decide_eq_true (by kernel_rfl)) (by unfold Func.isWrapper; first | (rw [if_pos (by decide +kernel)]; kernel_rfl) | (rw [if_neg (by decide +kernel)]; exact ⟨rfl, rfl⟩))
    (fun os started H enc _ => lifted os started H enc)

end Go.Proofs.Yteodapefimlakaa.lawContractBuilds
namespace Go.Proofs.Yteodapefimlakaa
theorem contractBuilds_proved : Rows.ContractBuildsSaid := lawContractBuilds.over
#print axioms contractBuilds_proved
end Go.Proofs.Yteodapefimlakaa
