/- Contract: what the lightest arcs to a node, and from it, weigh. -/
import Derived.Test.YtgplpgldhoelcaaQChangeAgain09
import Derived.Test.YtgplpgldhoelcaaQChangeAgain00
import Derived.Test.YtgplpgldhoelcaaQChangeAgain01
namespace Go.Proofs.Ytgplpgldhoelcaa
open Go Go.RowKit
attribute [local go_sem] Oper.semAt_some
def lmF (m : LM) : Int → Option Int := fun z => if 0 ≤ z then (m z.toNat).map (fun n : Nat => (n : Int)) else none
theorem lmF_at (m : LM) (u : Nat) : lmF m (u : Int) = (m u).map (fun n : Nat => (n : Int)) := by simp [lmF]
theorem lmF_upd (m : LM) (u w : Nat) : lmF (fun z => if z = u then some w else m z) = fun z => if z = (u : Int) then some (w : Int) else lmF m z := by
  funext z
  unfold lmF
  by_cases h0 : 0 ≤ z
  · rw [if_pos h0, if_pos h0]
    by_cases e : z = (u : Int)
    · subst e; simp
    · have : z.toNat ≠ u := fun h => e (by omega)
      simp [e, this]
  · rw [if_neg h0, if_neg h0, if_neg (by omega)]
def szL (m : LM) (N : Nat) : Nat := ((List.range N).filter fun u => (m u).isSome).length
theorem szL_some {m : LM} {u w : Nat} (N : Nat) (h : (m u).isSome = true) : szL (fun z => if z = u then some w else m z) N = szL m N := by
  unfold szL
  congr 1
  refine List.filter_congr fun x _ => ?_
  by_cases e : x = u
  · subst e; simp [h]
  · simp [e]
theorem szL_none {m : LM} {u w N : Nat} (hu : u < N) (h : (m u).isSome = false) : szL (fun z => if z = u then some w else m z) N = szL m N + 1 := by
  unfold szL
  induction N with
  | zero => omega
  | succ N ih =>
    rw [List.range_succ, List.filter_append, List.filter_append, List.length_append, List.length_append]
    rcases Nat.lt_or_ge u N with h1 | h1
    · have h3 := ih h1
      have h4 : (List.filter (fun x => (if x = u then some w else m x).isSome) [N]).length = (List.filter (fun x => (m x).isSome) [N]).length := by simp [List.filter, show N ≠ u by omega]
      have h5 : ((List.range N).filter fun x => (if x = u then some w else m x).isSome).length = ((List.range N).filter fun x => (m x).isSome).length + 1 := h3
      show ((List.range N).filter fun x => (if x = u then some w else m x).isSome).length + (List.filter (fun x => (if x = u then some w else m x).isSome) [N]).length = _
      omega
    · have e : u = N := by omega
      subst e
      have e2 : ((List.range u).filter fun x => (if x = u then some w else m x).isSome) = (List.range u).filter fun x => (m x).isSome := by
        refine List.filter_congr fun x hx => ?_
        have : x ≠ u := by have := List.mem_range.1 hx; omega
        simp [this]
      rw [e2]
      simp [h]
set_option maxRecDepth 20000 in
set_option maxHeartbeats 4000000 in
theorem coLeast (bm n bv bn bg og N v u wt : Nat) (Ao : Value) (cg : Nat) (G : List Bool) (m : LM) (w : World) (h : MapIU w bm n (szL m N) (lmF m)) (hv : Arr w bv 3 [.int .i64 (v : Int)]) (hnb : Arr w bn 34 [Ao, .slice (some ⟨bg, og, none⟩) N cg]) (hg : Holds w ⟨bg, og + u, none⟩ (.bool (bb G u))) (hu : u < N) (hN : N ≤ 4096) (hw : wt < 18446744073709551616) (hnn : n ≤ 1000000000) :
    Calls Try.prog 122 #[.map (some bm), .int .i64 (u : Int), .int .u64 (wt : Int), .pointer (some ⟨bv, 0, none⟩), .pointer (some ⟨bn, 0, none⟩)] w fun e w' => e = .returned (.tuple #[]) ∧ MapIU w' bm (n + 1) (szL (lgPut G v m u wt) N) (lmF (lgPut G v m u wt)) ∧ Touch (fun k => k = bm) w w' := by
  have wk : I64 (u : Int) := ⟨by omega, by omega⟩
  have wy : U64 (wt : Int) := ⟨by omega, by omega⟩
  have hmm : n < maxLen := by unfold maxLen; omega
  have HM := hide h
  have HM1 : Hid (MapIU w bm (n + 1) (szL m N) (lmF m)) := hide (by
    obtain ⟨D, ⟨es, clock, q1, q2, q3, q4⟩, q5⟩ := h
    exact ⟨D, ⟨es, clock, q1, q2, by omega, q4⟩, q5⟩)
  have HAT := hide (lmF_at m u)
  clear h
  have lookup : True := trivial
  by_cases huv : u = v
  · have e : lgPut G v m u wt = m := by unfold lgPut; rw [if_neg (fun h => h.1 huv)]
    have hc : ((u : Int) != (v : Int)) = false := by subst huv; simp
    rw [e]
    clear e huv
    go_enter Try.func122, Try.ntmps122
    go_wp2_with (at_lookup; refine wp_mapGetOkU rfl _ _ rfl bm n _ _ rfl HM.out _ rfl wk ?_)
    go_end0
    exact ⟨rfl, HM1.out, Touch.refl _ _⟩
  · have hc : ((u : Int) != (v : Int)) = true := bne_iff_ne.2 (by omega)
    cases hgu : bb G u with
    | true =>
      have e : lgPut G v m u wt = m := by unfold lgPut; rw [if_neg (fun h => by rw [hgu] at h; cases h.2.1)]
      rw [e]
      rw [hgu] at hg
      clear e huv hgu
      go_enter Try.func122, Try.ntmps122
      go_wp2_with (at_lookup; refine wp_mapGetOkU rfl _ _ rfl bm n _ _ rfl HM.out _ rfl wk ?_)
      go_end0
      exact ⟨rfl, HM1.out, Touch.refl _ _⟩
    | false =>
      rw [hgu] at hg
      cases hmu : m u with
      | none =>
        have e : lgPut G v m u wt = fun z => if z = u then some wt else m z := by unfold lgPut; rw [if_pos ⟨huv, hgu, by unfold lgLess; rw [hmu]⟩]
        have HS := hide (szL_none (m := m) (w := wt) hu (by rw [hmu]; rfl))
        have HU := hide (lmF_upd m u wt)
        have HA := hide (show lmF m (u : Int) = none from by rw [lmF_at, hmu]; rfl)
        rw [e, HS.out, HU.out]
        clear e huv hgu hmu HAT
        go_enter Try.func122, Try.ntmps122
        go_wp2_with (first
          | (at_lookup; refine wp_mapGetOkU rfl _ _ rfl bm n _ _ rfl HM.out _ rfl wk ?_; rw [HA.out])
          | (at_mapUpdate; refine wp_mapPutUT rfl _ _ _ rfl bm n _ _ rfl HM.out hmm _ _ rfl rfl wk wy ?_; intro w1 hm1 ht1; have HM2 := hide hm1; have HT2 := hide ht1; clear hm1 ht1))
        go_end0
        have h2 := HM2.out
        rw [HA.out] at h2
        exact ⟨rfl, h2, HT2.out⟩
      | some was =>
        have HA := hide (show lmF m (u : Int) = some (was : Int) from by rw [lmF_at, hmu]; rfl)
        by_cases hlt : wt < was
        · have e : lgPut G v m u wt = fun z => if z = u then some wt else m z := by unfold lgPut; rw [if_pos ⟨huv, hgu, by unfold lgLess; rw [hmu]; exact decide_eq_true hlt⟩]
          have HS := hide (szL_some (m := m) (u := u) (w := wt) N (by rw [hmu]; rfl))
          have HU := hide (lmF_upd m u wt)
          have hlti : (wt : Int) < (was : Int) := by omega
          rw [e, HS.out, HU.out]
          clear e huv hgu hmu HAT
          go_enter Try.func122, Try.ntmps122
          go_wp2_with (first
            | (at_lookup; refine wp_mapGetOkU rfl _ _ rfl bm n _ _ rfl HM.out _ rfl wk ?_; rw [HA.out])
            | (at_mapUpdate; refine wp_mapPutUT rfl _ _ _ rfl bm n _ _ rfl HM.out hmm _ _ rfl rfl wk wy ?_; intro w1 hm1 ht1; have HM2 := hide hm1; have HT2 := hide ht1; clear hm1 ht1))
          go_end0
          have h2 := HM2.out
          rw [HA.out] at h2
          exact ⟨rfl, h2, HT2.out⟩
        · have e : lgPut G v m u wt = m := by unfold lgPut; rw [if_neg (fun h => by have := h.2.2; unfold lgLess at this; rw [hmu] at this; exact hlt (of_decide_eq_true this))]
          have hlti : ¬ (wt : Int) < (was : Int) := by omega
          rw [e]
          clear e huv hgu hmu HAT
          go_enter Try.func122, Try.ntmps122
          go_wp2_with (at_lookup; refine wp_mapGetOkU rfl _ _ rfl bm n _ _ rfl HM.out _ rfl wk ?_; rw [HA.out])
          go_end0
          exact ⟨rfl, HM1.out, Touch.refl _ _⟩
theorem MapIU.more {w : World} {b n m s : Nat} {f : Int → Option Int} (h : MapIU w b n s f) (hn : n ≤ m) : MapIU w b m s f := by
  obtain ⟨D, ⟨es, clock, q1, q2, q3, q4⟩, q5⟩ := h
  exact ⟨D, ⟨es, clock, q1, q2, by omega, q4⟩, q5⟩
structure LgC (w0 : World) (b1 b2 n N : Nat) (tf : LM × LM) (w : World) : Prop where
  later : ∃ y : Later w0, w = y.now
  m1 : MapIU w b1 n (szL tf.1 N) (lmF tf.1)
  m2 : MapIU w b2 n (szL tf.2 N) (lmF tf.2)
theorem LgC.grow {w0 w w' : World} {b1 b2 n N : Nat} {tf : LM × LM} (h : LgC w0 b1 b2 n N tf w) (hg : Grows w w') : LgC w0 b1 b2 n N tf w' := by
  obtain ⟨⟨y, rfl⟩, h1, h2⟩ := h
  exact ⟨⟨⟨_, y.grows.trans hg⟩, rfl⟩, h1.touch (hg.touch (fun _ => False)) id, h2.touch (hg.touch (fun _ => False)) id⟩
theorem LgC.more {w0 w : World} {b1 b2 n m N : Nat} {tf : LM × LM} (h : LgC w0 b1 b2 n N tf w) (hn : n ≤ m) : LgC w0 b1 b2 m N tf w := ⟨h.later, h.m1.more hn, h.m2.more hn⟩
theorem LgC.put1 {w0 w w' : World} {b1 b2 n N : Nat} {tf : LM × LM} {m : LM} (h : LgC w0 b1 b2 n N tf w) (h0 : w0.heap.size ≤ b1) (hne : b1 ≠ b2) (hm : MapIU w' b1 (n + 1) (szL m N) (lmF m)) (ht : Touch (fun k => k = b1) w w') : LgC w0 b1 b2 (n + 1) N (m, tf.2) w' := by
  obtain ⟨⟨y, rfl⟩, h1, h2⟩ := h
  exact ⟨⟨⟨_, ht.later y.grows (fun k hk => by rw [hk]; exact h0)⟩, rfl⟩, hm, (h2.touch ht (fun e => hne e.symm)).more (Nat.le_succ n)⟩
theorem LgC.put2 {w0 w w' : World} {b1 b2 n N : Nat} {tf : LM × LM} {m : LM} (h : LgC w0 b1 b2 n N tf w) (h0 : w0.heap.size ≤ b2) (hne : b1 ≠ b2) (hm : MapIU w' b2 (n + 1) (szL m N) (lmF m)) (ht : Touch (fun k => k = b2) w w') : LgC w0 b1 b2 (n + 1) N (tf.1, m) w' := by
  obtain ⟨⟨y, rfl⟩, h1, h2⟩ := h
  exact ⟨⟨⟨_, ht.later y.grows (fun k hk => by rw [hk]; exact h0)⟩, rfl⟩, (h1.touch ht hne).more (Nat.le_succ n), hm⟩
set_option maxRecDepth 40000 in
set_option maxHeartbeats 8000000 in
theorem coLightest (Ao Ag : Option Addr) (co cg v : Nat) (O : NetO) (G : List Bool) (w : World) (h : NetRd w Ao Ag O G) (hin : NIn O) (hv : v < O.length) (hN : O.length ≤ 4096) (hW : ∀ v a, a ∈ ga O v → a.2 ≤ 1152921504606846976) (hlen : ∀ v, (ga O v).length ≤ 100000) :
    Calls Try.prog 76 #[.agg #[.slice Ao O.length co, .slice Ag O.length cg], .int .i64 (v : Int)] w fun e w' => ∃ b1 b2, e = .returned (.tuple #[.map (some b1), .map (some b2)]) ∧ MapIU w' b1 1000000000 (szL (lightest O G v).1 O.length) (lmF (lightest O G v).1) ∧ MapIU w' b2 1000000000 (szL (lightest O G v).2 O.length) (lmF (lightest O G v).2) ∧ w.heap.size ≤ b1 ∧ w.heap.size ≤ b2 ∧ b1 ≠ b2 ∧ Grows w w' := by
  obtain ⟨bo, oo, rfl, bg, og, rfl, hg⟩ := h.base (by omega)
  have HNET := hide h
  have HGG := hide hg
  clear h hg
  have hmm := @run_makeMap Try.prog
  obtain ⟨N, hNN⟩ : ∃ N, N = O.length := ⟨_, rfl⟩
  have HL : Hid (lightest O G v = lgAll O G v N) := hide (by rw [hNN]; rfl)
  rw [← hNN] at hv hN HGG ⊢
  have HN := hide hNN
  clear hNN
  rw [HL.out]
  obtain ⟨W1, hW1⟩ : ∃ W1, W1 = (w.alloc (.cells #[.slice (some ⟨bo, oo, none⟩) N co, .slice (some ⟨bg, og, none⟩) N cg] 34)).alloc (.cells #[.int .i64 (v : Int)] 3) := ⟨_, rfl⟩
  have hgw1 : Grows w W1 := by rw [hW1]; exact ((Grows.refl _).new _).new _
  have a2 : Arr W1 w.heap.size 34 [.slice (some ⟨bo, oo, none⟩) N co, .slice (some ⟨bg, og, none⟩) N cg] := by rw [hW1]; exact (Arr.make _ _ _).grow ((Grows.refl _).new _)
  have a3 : Arr W1 (w.heap.size + 1) 3 [.int .i64 (v : Int)] := by
    rw [hW1]
    have := Arr.make (w.alloc (.cells #[.slice (some ⟨bo, oo, none⟩) N co, .slice (some ⟨bg, og, none⟩) N cg] 34)) [.int .i64 (v : Int)] 3
    simpa using this
  have hz1 : Hid (W1.heap.size = w.heap.size + 1 + 1) := hide (by rw [hW1]; simp)
  go_enter Try.func76, Try.ntmps76
  go_upto_region 1 with fail
  rw [← hW1]
  clear hW1
  generalize hb2 : w.heap.size = b2 at *
  have HB2 := hide hb2
  clear hb2
  generalize hb3 : b2 + 1 = b3 at *
  have HB3 := hide hb3
  clear hb3
  obtain ⟨y1, rfl⟩ := hgw1.later
  go_upto_region 2 with fail
  have hM1 := (MapIU.made y1.now).touch (((Grows.refl _).new (.map #[] 0)).touch (fun _ => False)) (id : ¬ False)
  have hM2 := MapIU.made (y1.now.alloc (.map #[] 0))
  have hgM : Grows y1.now ((y1.now.alloc (.map #[] 0)).alloc (.map #[] 0)) := ((Grows.refl _).new _).new _
  have hz2 : (y1.now.alloc (.map #[] 0)).heap.size = y1.now.heap.size + 1 := by simp
  rw [hz2] at hM2
  have HC0 : Hid (LgC y1.now y1.now.heap.size (y1.now.heap.size + 1) 0 N (lgAll O G v 0) ((y1.now.alloc (.map #[] 0)).alloc (.map #[] 0))) := hide ⟨⟨⟨_, hgM⟩, rfl⟩, by
    have e1 : szL (lgAll O G v 0).1 N = 0 := by simp [szL, lgAll]
    have e2 : lmF (lgAll O G v 0).1 = fun _ => none := by funext z; simp [lmF, lgAll]
    rw [e1, e2]
    exact hM1, by
    have e1 : szL (lgAll O G v 0).2 N = 0 := by simp [szL, lgAll]
    have e2 : lmF (lgAll O G v 0).2 = fun _ => none := by funext z; simp [lmF, lgAll]
    rw [e1, e2]
    exact hM2⟩
  clear hM1 hM2 hz2 hmm
  generalize ((y1.now.alloc (.map #[] 0)).alloc (.map #[] 0)) = W3 at *
  have hb1y : y1.now.heap.size ≤ y1.now.heap.size := Nat.le_refl _
  generalize hm1 : y1.now.heap.size = m1 at *
  have HM1 := hide hm1
  clear hm1
  generalize hm2 : m1 + 1 = m2 at *
  have HM2 := hide hm2
  clear hm2 hb1y
  obtain ⟨z3, rfl⟩ := hgM.later
  go_wp2_with fail
  go_loopw [17] (fun s wr => ∃ u : Nat, u ≤ N ∧ s = .int .i64 (u : Int) ∧ LgC y1.now m1 m2 (u * 100000) N (lgAll O G v u) wr) (fun s _ => N - (Go.RowKit.intOf s).toNat)
  case atStart => exact ⟨0, by omega, by go_num, HC0.out⟩
  case round =>
    obtain ⟨u, hu, rfl, hc⟩ := hrel
    have HC := hide hc
    clear hc HC0
    obtain ⟨z, rfl⟩ := HC.out.later
    by_cases hlt : u < N
    · obtain ⟨bo', oo', e1, Al, cl, hrow, hrl⟩ := (HNET.out.grows y1.grows).row (x := u) (by rw [← HN.out]; exact hlt)
      injection e1 with e1
      injection e1 with e1 e2
      subst e1 e2
      have HRL := hide hrl
      have HIN := hide (fun a (ha : a ∈ ga O u) => show a.1 < N ∧ a.2 ≤ 1152921504606846976 from ⟨by rw [HN.out]; exact hin u a ha, hW u a ha⟩)
      have hll := hlen u
      have HNU := hide (show lgAll O G v (u + 1) = lgRow G v u (ga O u) (lgAll O G v u) from rfl)
      clear hrl
      generalize ga O u = l at *
      generalize lgAll O G v u = tf0 at *
      go_wp2_with fail
      go_loopw [24] (fun j wr => ∃ q : Nat, q ≤ l.length ∧ j = .int .i64 (q : Int) ∧ ∃ n, Hid (n = u * 100000 + q) ∧ LgC y1.now m1 m2 n N (lgRow G v u (l.take q) tf0) wr) (fun j _ => l.length - (Go.RowKit.intOf j).toNat)
      case atStart => exact ⟨0, by omega, by go_num, _, rfl, by rw [Nat.add_zero]; exact HC.out⟩
      case round =>
        obtain ⟨q, hq, rfl, n, HNQ, hcq⟩ := hrel
        have HCQ := hide hcq
        clear hcq
        obtain ⟨zq, rfl⟩ := HCQ.out.later
        by_cases hql : q < l.length
        · have hmem : gi2 l q ∈ l := by
            unfold gi2
            rw [List.getD_eq_getElem?_getD, List.getElem?_eq_getElem hql]
            exact List.getElem_mem hql
          obtain ⟨i1, i2⟩ := HIN.out _ hmem
          have e3 : l.take (q + 1) = l.take q ++ [gi2 l q] := by
            rw [List.take_succ_eq_append_getElem hql]
            simp [gi2, hql]
          have HNX := hide (show lgRow G v u (l.take (q + 1)) tf0 = lgArc G v u (lgRow G v u (l.take q) tf0) (gi2 l q) from by rw [e3, lgRow_snoc])
          obtain ⟨gA, oA, rfl, hcA⟩ := (HRL.out.grows zq.grows).itemH (by omega) rfl
          obtain ⟨c1, c2⟩ := hcA q hql
          have HG1 := hide (HGG.out (gi2 l q).1 i1)
          have HG2 := hide (HGG.out u hlt)
          have hnb : n ≤ 1000000000 := by
            have h1 := HNQ.out
            have h2 : u * 100000 ≤ 4096 * 100000 := Nat.mul_le_mul_right _ (by omega)
            omega
          clear hcA e3 hmem
          generalize lgRow G v u (l.take q) tf0 = tq at *
          generalize gi2 l q = ar at *
          obtain ⟨at1, aw1⟩ := ar
          simp only at i1 i2 c1 c2 HG1
          go_upto_region 9 with fail
          have hg21 : Grows zq.now (zq.now.alloc (.cells #[.int .i64 (at1 : Int), .int .u64 (aw1 : Int)] 40)) := (Grows.refl _).new _
          have a10 : Arr (zq.now.alloc (.cells #[.int .i64 (at1 : Int), .int .u64 (aw1 : Int)] 40)) zq.now.heap.size 40 [.int .i64 (at1 : Int), .int .u64 (aw1 : Int)] := Arr.make _ _ _
          have HCA := hide (HCQ.out.grow hg21)
          clear HCQ c1 c2
          generalize zq.now.alloc (.cells #[.int .i64 (at1 : Int), .int .u64 (aw1 : Int)] 40) = W6 at *
          generalize zq.now.heap.size = b10 at *
          clear hg21
          obtain ⟨z6, rfl⟩ := HCA.out.later
          by_cases h1 : v = u
          · have hvu : ((v : Int) == (u : Int)) = true := by subst h1; simp
            have HA := hide (show lgArc G v u tq (at1, aw1) = (tq.1, lgPut G v tq.2 at1 aw1) from by unfold lgArc; rw [if_pos h1])
            have CL := hide (coLeast m2 n b3 b2 bg og N v at1 aw1 (.slice (some ⟨bo, oo, none⟩) N co) cg G tq.2 z6.now HCA.out.m2 (a3.grow z6.grows) (a2.grow z6.grows) ⟨(y1.grows.trans z6.grows).keeps HG1.out.cell⟩ i1 hN (by omega) hnb)
            clear h1
            go_wp2_with (go_at_call 122; refine (CL.out).mono ?_; rintro e w2 ⟨rfl, hm, ht⟩; have HC7 := hide (HCA.out.put2 (by have := HM1.out; have := HM2.out; omega) (by have := HM2.out; omega) hm ht); clear hm ht; obtain ⟨z7, rfl⟩ := HC7.out.later)
            go_roundw
            case measure => simp [Go.RowKit.intOf]; omega
            case rel => exact ⟨q + 1, by omega, by go_num, n + 1, by show n + 1 = _; rw [HNQ.out]; omega, by rw [HNX.out, HA.out]; exact HC7.out⟩
          · have hvu : ((v : Int) == (u : Int)) = false := beq_eq_false_iff_ne.2 (by omega)
            by_cases h2 : v = at1
            · have hva : ((v : Int) == (at1 : Int)) = true := by subst h2; simp
              have HA := hide (show lgArc G v u tq (at1, aw1) = (lgPut G v tq.1 u aw1, tq.2) from by unfold lgArc; rw [if_neg h1, if_pos h2])
              have CL := hide (coLeast m1 n b3 b2 bg og N v u aw1 (.slice (some ⟨bo, oo, none⟩) N co) cg G tq.1 z6.now HCA.out.m1 (a3.grow z6.grows) (a2.grow z6.grows) ⟨(y1.grows.trans z6.grows).keeps HG2.out.cell⟩ hlt hN (by omega) hnb)
              clear h1 h2
              go_wp2_with (go_at_call 122; refine (CL.out).mono ?_; rintro e w2 ⟨rfl, hm, ht⟩; have HC7 := hide (HCA.out.put1 (by have := HM1.out; omega) (by have := HM2.out; omega) hm ht); clear hm ht; obtain ⟨z7, rfl⟩ := HC7.out.later)
              go_roundw
              case measure => simp [Go.RowKit.intOf]; omega
              case rel => exact ⟨q + 1, by omega, by go_num, n + 1, by show n + 1 = _; rw [HNQ.out]; omega, by rw [HNX.out, HA.out]; exact HC7.out⟩
            · have hva : ((v : Int) == (at1 : Int)) = false := beq_eq_false_iff_ne.2 (by omega)
              have HA := hide (show lgArc G v u tq (at1, aw1) = tq from by unfold lgArc; rw [if_neg h1, if_neg h2])
              clear h1 h2
              go_wp2_with fail
              go_roundw
              case measure => simp [Go.RowKit.intOf]; omega
              case rel => exact ⟨q + 1, by omega, by go_num, n + 1, by show n + 1 = _; rw [HNQ.out]; omega, by rw [HNX.out, HA.out]; exact HCA.out.more (Nat.le_succ n)⟩
        · obtain rfl : l.length = q := by omega
          rw [List.take_length] at HCQ
          go_wp2_with fail
          go_roundw
          case measure => simp [Go.RowKit.intOf]; omega
          case rel => exact ⟨u + 1, by omega, by go_num, by rw [HNU.out]; exact HCQ.out.more (by rw [HNQ.out, Nat.succ_mul]; omega)⟩
    · obtain rfl : N = u := by omega
      have hnb : N * 100000 ≤ 1000000000 := by omega
      go_wp2_with fail
      refine bodyPost_ret (v := .tuple #[.map (some m1), .map (some m2)]) (by simp (maxDischargeDepth := 6) [results, Try.results76, go_sem, *]) rfl ⟨m1, m2, rfl, HC.out.m1.more hnb, HC.out.m2.more hnb, ?_⟩
      have h1 := HM1.out
      have h2 := HM2.out
      have h3 := HB2.out
      have h4 := y1.size
      exact ⟨by omega, by omega, by omega, y1.grows.trans z.grows⟩
end Go.Proofs.Ytgplpgldhoelcaa

namespace Go.Proofs.Ytgplpgldhoelcaa
open Go
section
variable {P : Program}
theorem ready_mem {md : Region.Mode} {ops : Array Oper} {listed : Array Bool} {i : Nat} : i ∈ Region.ready md ops listed ↔ i < ops.size ∧ listed.getD i true = false ∧ ∃ o, ops[i]? = some o ∧ ∀ e ∈ o.after, Region.binds md e = true → listed.getD e.on false = true := by
  unfold Region.ready
  rw [List.mem_filter, List.mem_range]
  constructor
  · rintro ⟨h1, h2⟩
    rw [Bool.and_eq_true, Bool.not_eq_true'] at h2
    refine ⟨h1, h2.1, ops[i], by simp [h1], fun e he hb => ?_⟩
    have h3 := h2.2
    simp only [Array.getElem?_eq_getElem h1, Option.map_some, Option.getD_some, Array.all_eq_true'] at h3
    have := h3 e he
    rw [hb] at this
    simpa using this
  · rintro ⟨h1, h2, o, h3, h4⟩
    refine ⟨h1, ?_⟩
    rw [h2, h3]
    simp only [Bool.not_false, Bool.true_and, Option.map_some, Option.getD_some, Array.all_eq_true']
    intro e he
    cases hb : Region.binds md e
    · rfl
    · simpa using h4 e he hb
def backB (l : List Oper) : Bool := (List.range l.length).all fun i => match l[i]? with | some o => o.after.all fun e => !Region.binds .any e || decide (e.on < i) | none => true
theorem backB_spec {l : List Oper} (h : backB l = true) {i : Nat} {o : Oper} (ho : l[i]? = some o) {e : Edge} (he : e ∈ o.after) (hb : Region.binds .any e = true) : e.on < i := by
  unfold backB at h
  rw [List.all_eq_true] at h
  have hi : i < l.length := (List.getElem?_eq_some_iff.1 ho).1
  have := h i (by simpa using hi)
  rw [ho] at this
  simp only [Array.all_eq_true'] at this
  have := this e he
  rw [hb] at this
  simpa using this
theorem all_listed {l : List Oper} (hB : backB l = true) {listed : Array Bool} (hs : listed.size = l.length) (h : Region.ready .any l.toArray listed = []) : ∀ n j, j < n → j < l.length → listed.getD j true = true := by
  intro n
  induction n with
  | zero => intro j hj; omega
  | succ n ih =>
    intro j hj hl
    by_cases hjn : j < n
    · exact ih j hjn hl
    · cases hd : listed.getD j true with
      | true => rfl
      | false =>
        exfalso
        have : j ∈ Region.ready .any l.toArray listed := ready_mem.2 ⟨by simpa using hl, hd, l[j], by simp [hl], fun e he hb => by
          have h1 := backB_spec hB (i := j) (o := l[j]) (by simp [hl]) he hb
          have h2 := ih e.on (by omega) (by omega)
          have h3 : e.on < listed.size := by omega
          simp only [Array.getD, h3, dite_true] at h2 ⊢
          exact h2⟩
        rw [h] at this
        cases this
variable {l : List Oper} {Q : Exit → Act → World → Prop}
theorem set_getD (listed : Array Bool) (i : Nat) (hi : i < listed.size) : (fun j => (listed.setIfInBounds i true).getD j true) = fun j => if j = i then true else listed.getD j true := by
  funext j
  by_cases h : j = i
  · subst h; simp [Array.getD, hi]
  · rw [if_neg h]
    simp only [Array.getD, Array.size_setIfInBounds]
    by_cases hj : j < listed.size
    · simp [hj, Ne.symm h]
    · simp [hj]
theorem wpAny_inv (hB : backB l = true) (I : (Nat → Bool) → Act → World → Prop)
    (hs : ∀ D a w, I D a w → ∀ i o, l[i]? = some o → D i = false → (∀ e ∈ o.after, Region.binds .any e = true → D e.on = true) → ∀ K : Act → World → Prop, (∀ a' w', I (fun j => if j = i then true else D j) a' w' → K a' w') →
      if Region.wanted o (yielded l.toArray a.tmps) = true then Oper.wp P o a w K Q else K (a.put o.dst undef) w)
    (he : ∀ D a w, I D a w → (∀ j, j < l.length → D j = true) → Q .normal a w) :
    ∀ (fuel : Nat) (listed : Array Bool) (a : Act) (w : World), listed.size = l.length → listed.toList.count false ≤ fuel → I (fun j => listed.getD j true) a w → wpAny P .any l.toArray Q fuel listed a w
  | 0, listed, a, w, hl, hc, hI => by
    have hall : ∀ j, j < l.length → listed.getD j true = true := fun j hj => by
      have h0 : listed.toList.count false = 0 := by omega
      rw [List.count_eq_zero] at h0
      have h1 : j < listed.size := by omega
      cases hd : listed.getD j true with
      | true => rfl
      | false =>
        exfalso
        simp only [Array.getD, h1, dite_true] at hd
        exact h0 (by rw [← hd]; simp)
    refine ⟨?_, he _ a w hI hall⟩
    rw [List.eq_nil_iff_forall_not_mem]
    intro i hi
    obtain ⟨h1, h2, _⟩ := ready_mem.1 hi
    rw [hall i (by simpa using h1)] at h2
    cases h2
  | fuel + 1, listed, a, w, hl, hc, hI => by
    refine ⟨fun hn => he _ a w hI fun j hj => all_listed hB hl hn (j + 1) j (by omega) hj, fun i hi => ?_⟩
    obtain ⟨h1, h2, o, h3, h4⟩ := ready_mem.1 hi
    have hil : i < listed.size := by rw [hl]; simpa using h1
    have hst := hs _ a w hI i o (by simpa using h3) h2 (fun e he hb => by
      have := h4 e he hb
      by_cases hj : e.on < listed.size
      · simp only [Array.getD, hj, dite_true] at this ⊢; exact this
      · simp [Array.getD, hj]) (wpAny P .any l.toArray Q fuel (listed.setIfInBounds i true)) (fun a' w' hI' => by
      refine wpAny_inv hB I hs he fuel _ a' w' (by simpa using hl) ?_ (by rw [set_getD listed i hil]; exact hI')
      have hd : listed[i] = false := by have h9 := h2; simp only [Array.getD, hil, dite_true] at h9; exact h9
      have : (listed.setIfInBounds i true).toList = listed.toList.set i true := by simp
      rw [this, List.count_set (by simpa using hil)]
      have e1 : listed.toList[i]'(by simpa using hil) = false := by simpa using hd
      rw [e1]
      have : 0 < listed.toList.count false := List.count_pos_iff.2 (by rw [← e1]; exact List.getElem_mem _)
      simp
      simp at hc this
      omega)
    unfold wpOp
    rw [h3]
    simp only
    split
    · rename_i hw
      rw [if_pos hw] at hst
      exact .inl hst
    · rename_i hw
      rw [if_neg hw] at hst
      exact hst
theorem wp_region_inv {id : Nat} {a : Act} {w : World} (hm : P.follows .mixedOrders = true) (hB : backB l = true) (I : (Nat → Bool) → Act → World → Prop) (h0 : I (fun j => decide (l.length ≤ j)) a w.drew)
    (hs : ∀ D a w, I D a w → ∀ i o, l[i]? = some o → D i = false → (∀ e ∈ o.after, Region.binds .any e = true → D e.on = true) → ∀ K : Act → World → Prop, (∀ a' w', I (fun j => if j = i then true else D j) a' w' → K a' w') →
      if Region.wanted o (yielded l.toArray a.tmps) = true then Oper.wp P o a w K Q else K (a.put o.dst undef) w)
    (he : ∀ D a w, I D a w → (∀ j, j < l.length → D j = true) → Q .normal a w) : (Code.region id l.toArray true).wp P Q a w := by
  refine wp_region_any hm ?_
  refine wpAny_inv hB I hs he _ _ a _ (by simp) (by simp) ?_
  have : (fun j => (Array.replicate l.toArray.size false).getD j true) = fun j => decide (l.length ≤ j) := by
    funext j
    by_cases hj : j < l.length
    · simp [Array.getD, hj]
    · simp [Array.getD, hj]; omega
  rw [this]
  exact h0
def dstOf (l : List Oper) (j : Nat) : Option Tmp := (l[j]?).bind (·.dst)
def injB (l : List Oper) : Bool := (List.range l.length).all fun i => (List.range l.length).all fun j => decide (i = j) || decide (dstOf l i = none) || decide (dstOf l i ≠ dstOf l j)
theorem injB_spec (h : injB l = true) {i j : Nat} {t : Tmp} (hi : dstOf l i = some t) (hj : dstOf l j = some t) : i = j := by
  have lt : ∀ {k : Nat}, dstOf l k = some t → k < l.length := fun {k} hk => by
    rcases Nat.lt_or_ge k l.length with h | h
    · exact h
    · rw [dstOf, List.getElem?_eq_none h] at hk; cases hk
  unfold injB at h
  rw [List.all_eq_true] at h
  have h1 := h i (by simpa using lt hi)
  rw [List.all_eq_true] at h1
  have h2 := h1 j (by simpa using lt hj)
  simp only [Bool.or_eq_true, decide_eq_true_eq] at h2
  rcases h2 with (h2 | h2) | h2
  · exact h2
  · rw [hi] at h2; cases h2
  · rw [hi, hj] at h2; exact absurd rfl h2
structure TabI (l : List Oper) (a0 : Act) (D : Nat → Bool) (g : Nat → Value) (a : Act) : Prop where
  d : a.defers = a0.defers
  n : a.tmps.size = a0.tmps.size
  out : ∀ t, (∀ j, dstOf l j ≠ some t) → a.eval (.tmp t) = a0.eval (.tmp t)
  at_ : ∀ j t, dstOf l j = some t → D j = true → a.eval (.tmp t) = g j
theorem put_eval (a : Act) (t s : Tmp) (v : Value) (ht : t < a.tmps.size) : (a.put (some t) v).eval (.tmp s) = if s = t then v else a.eval (.tmp s) := by
  show (a.tmps.setIfInBounds t v).getD s undef = if s = t then v else a.tmps.getD s undef
  by_cases h : s = t
  · subst h
    simp [Array.getD, ht]
  · rw [if_neg h]
    simp only [Array.getD, Array.size_setIfInBounds]
    by_cases hs : s < a.tmps.size
    · simp [hs, Ne.symm h]
    · simp [hs]
def updG (g : Nat → Value) (i : Nat) (v : Value) : Nat → Value := fun j => if j = i then v else g j
theorem TabI.put {a0 : Act} {D : Nat → Bool} {g : Nat → Value} {a : Act} (hJ : injB l = true) (h : TabI l a0 D g a) {i : Nat} {o : Oper} (ho : l[i]? = some o) (hsz : ∀ t, o.dst = some t → t < a0.tmps.size) (v : Value) :
    TabI l a0 (fun j => if j = i then true else D j) (updG g i v) (a.put o.dst v) := by
  have hd : dstOf l i = o.dst := by simp [dstOf, ho]
  cases hdst : o.dst with
  | none =>
    refine ⟨h.d, h.n, h.out, fun j t hj hD => ?_⟩
    have hji : j ≠ i := fun e => by rw [e, hd, hdst] at hj; cases hj
    simp only [updG, if_neg hji] at hD ⊢
    exact h.at_ j t hj hD
  | some s =>
    have hs : s < a.tmps.size := by rw [h.n]; exact hsz s hdst
    refine ⟨h.d, by simpa [Act.put] using h.n, fun t ht => ?_, fun j t hj hD => ?_⟩
    · rw [put_eval _ _ _ _ hs, if_neg (fun e => by subst e; exact ht i (by rw [hd, hdst]))]
      exact h.out t ht
    · rw [put_eval _ _ _ _ hs]
      by_cases hji : j = i
      · subst hji
        rw [hd, hdst] at hj
        injection hj with hj
        rw [if_pos hj.symm]
        simp [updG]
      · simp only [updG, if_neg hji] at hD ⊢
        rw [if_neg (fun e => by subst e; exact hji (injB_spec hJ hj (by rw [hd, hdst])))]
        exact h.at_ j t hj hD
def putAll (l : List Oper) (g : Nat → Value) (a0 : Act) : Nat → Act
  | 0 => a0
  | k + 1 => (putAll l g a0 k).put (dstOf l k) (g k)
theorem putAll_size (l : List Oper) (g : Nat → Value) (a0 : Act) : ∀ k, (putAll l g a0 k).tmps.size = a0.tmps.size
  | 0 => rfl
  | k + 1 => by
    have ih := putAll_size l g a0 k
    simp only [putAll]
    cases dstOf l k with
    | none => exact ih
    | some t => simpa [Act.put] using ih
theorem putAll_defers (l : List Oper) (g : Nat → Value) (a0 : Act) : ∀ k, (putAll l g a0 k).defers = a0.defers
  | 0 => rfl
  | k + 1 => by
    have ih := putAll_defers l g a0 k
    simp only [putAll]
    cases dstOf l k with
    | none => exact ih
    | some t => exact ih
theorem putAll_eval (hJ : injB l = true) (g : Nat → Value) (a0 : Act) (hsz : ∀ j t, dstOf l j = some t → t < a0.tmps.size) (t : Tmp) : ∀ k, (∀ j, j < k → dstOf l j = some t → (putAll l g a0 k).eval (.tmp t) = g j) ∧ ((∀ j, j < k → dstOf l j ≠ some t) → (putAll l g a0 k).eval (.tmp t) = a0.eval (.tmp t))
  | 0 => ⟨fun j hj => absurd hj (by omega), fun _ => rfl⟩
  | k + 1 => by
    obtain ⟨ih1, ih2⟩ := putAll_eval hJ g a0 hsz t k
    simp only [putAll]
    cases hk : dstOf l k with
    | none =>
      refine ⟨fun j hj hd => ?_, fun h => ih2 fun j hj => h j (by omega)⟩
      by_cases e : j = k
      · subst e; rw [hk] at hd; cases hd
      · exact ih1 j (by omega) hd
    | some s =>
      have hs : s < (putAll l g a0 k).tmps.size := by rw [putAll_size]; exact hsz k s hk
      refine ⟨fun j hj hd => ?_, fun h => ?_⟩
      · rw [put_eval _ _ _ _ hs]
        by_cases e : j = k
        · subst e
          rw [hk] at hd
          injection hd with hd
          rw [if_pos hd.symm]
        · rw [if_neg (fun e2 => by subst e2; exact e (injB_spec hJ hd hk))]
          exact ih1 j (by omega) hd
      · rw [put_eval _ _ _ _ hs, if_neg (fun e => by subst e; exact h k (by omega) hk)]
        exact ih2 fun j hj => h j (by omega)
theorem TabI.all {a0 : Act} {D : Nat → Bool} {g : Nat → Value} {a : Act} (hJ : injB l = true) (h : TabI l a0 D g a) (hD : ∀ j, j < l.length → D j = true) (hsz : ∀ j t, dstOf l j = some t → t < a0.tmps.size) : a = putAll l g a0 l.length := by
  have key : ∀ t : Nat, a.eval (.tmp t) = (putAll l g a0 l.length).eval (.tmp t) := fun t => by
    obtain ⟨h1, h2⟩ := putAll_eval hJ g a0 hsz t l.length
    by_cases hj : ∃ j, j < l.length ∧ dstOf l j = some t
    · obtain ⟨j, hj, hd⟩ := hj
      rw [h1 j hj hd]
      exact h.at_ j t hd (hD j hj)
    · have hn : ∀ j, dstOf l j ≠ some t := fun j hd => hj ⟨j, (by
        rcases Nat.lt_or_ge j l.length with h | h
        · exact h
        · rw [dstOf, List.getElem?_eq_none h] at hd; cases hd), hd⟩
      rw [h2 fun j _ => hn j]
      exact h.out t hn
  have e1 : a.tmps = (putAll l g a0 l.length).tmps := by
    refine Array.ext (by rw [h.n, putAll_size]) fun t h1 h2 => ?_
    have := key t
    simp only [Act.eval, Array.getD, h1, h2, dite_true] at this
    exact this
  have e2 : a.defers = (putAll l g a0 l.length).defers := by rw [h.d, putAll_defers]
  cases a
  simp only at e1 e2
  subst e1 e2
  rfl
def waitB (l : List Oper) (i j : Nat) : Bool := match l[i]? with | some o => o.after.any fun e => decide (e.on = j) && Region.binds .any e | none => false
theorem waitB_spec {i j : Nat} {o : Oper} (ho : l[i]? = some o) (h : waitB l i j = true) : ∃ e ∈ o.after, e.on = j ∧ Region.binds .any e = true := by
  unfold waitB at h
  rw [ho] at h
  simp only [Array.any_eq_true'] at h
  obtain ⟨e, he, h⟩ := h
  rw [Bool.and_eq_true, decide_eq_true_eq] at h
  exact ⟨e, he, h.1, h.2⟩
theorem wp_region_tab {id : Nat} {a0 : Act} {w : World} (hm : P.follows .mixedOrders = true) (hB : backB l = true) (hJ : injB l = true) (hsz : ((List.range l.length).all fun j => match dstOf l j with | some t => decide (t < a0.tmps.size) | none => true) = true)
    (J : (Nat → Bool) → (Nat → Value) → World → Prop) (h0 : J (fun j => decide (l.length ≤ j)) (fun _ => undef) w.drew)
    (hs : ∀ D g a w, TabI l a0 D g a → J D g w → (∀ i j, D i = true → waitB l i j = true → D j = true) → ∀ i o, l[i]? = some o → D i = false → (∀ j, waitB l i j = true → D j = true) → ∀ K : Act → World → Prop, (∀ v w', J (fun j => if j = i then true else D j) (updG g i v) w' → K (a.put o.dst v) w') →
      if Region.wanted o (yielded l.toArray a.tmps) = true then Oper.wp P o a w K Q else K (a.put o.dst undef) w)
    (he : ∀ D g w, J D g w → (∀ j, j < l.length → D j = true) → Q .normal (putAll l g a0 l.length) w) : (Code.region id l.toArray true).wp P Q a0 w := by
  have hsz' : ∀ j t, dstOf l j = some t → t < a0.tmps.size := fun j t hd => by
    have hj : j < l.length := by
      rcases Nat.lt_or_ge j l.length with h | h
      · exact h
      · rw [dstOf, List.getElem?_eq_none h] at hd; cases hd
    rw [List.all_eq_true] at hsz
    have := hsz j (by simpa using hj)
    rw [hd] at this
    simpa using this
  refine wp_region_inv hm hB (fun D a w => (∃ g, TabI l a0 D g a ∧ J D g w) ∧ ∀ i j, D i = true → waitB l i j = true → D j = true) ⟨⟨fun _ => undef, ⟨rfl, rfl, fun _ _ => rfl, fun j t hd hD => ?_⟩, h0⟩, fun i j hD hE => ?_⟩ ?_ ?_
  · exfalso
    rw [decide_eq_true_eq] at hD
    rw [dstOf, List.getElem?_eq_none hD] at hd
    cases hd
  · exfalso
    rw [decide_eq_true_eq] at hD
    unfold waitB at hE
    rw [List.getElem?_eq_none hD] at hE
    cases hE
  · rintro D a w ⟨⟨g, ht, hj⟩, hcl⟩ i o ho hD hpre K hK
    have hpre' : ∀ j, waitB l i j = true → D j = true := fun j hE => by
      obtain ⟨e, he, rfl, hb⟩ := waitB_spec ho hE
      exact hpre e he hb
    refine hs D g a w ht hj hcl i o ho hD hpre' K fun v w' hj' => hK _ _ ⟨⟨_, ht.put hJ ho (fun t hd => hsz' i t (by simp [dstOf, ho, hd])) v, hj'⟩, fun i' j hDi hE => ?_⟩
    show (if j = i then true else D j) = true
    by_cases e : j = i
    · rw [if_pos e]
    · rw [if_neg e]
      by_cases e2 : i' = i
      · subst e2; exact hpre' j hE
      · have hDi' : (if i' = i then true else D i') = true := hDi
        rw [if_neg e2] at hDi'
        exact hcl i' j hDi' hE
  · rintro D a w ⟨⟨g, ht, hj⟩, _⟩ hD
    rw [ht.all hJ hD hsz']
    exact he D g w hj hD
end
end Go.Proofs.Ytgplpgldhoelcaa

namespace Go.Proofs.Ytgplpgldhoelcaa
open Go Go.RowKit
section
variable {P : Program} {Q : Exit → Act → World → Prop} {l : List Oper}
def knowB (l : List Oper) : Bool := (List.range l.length).all fun i => match l[i]? with
  | some o => o.guard.isNone && (match o.op with | .select .. => false | _ => true) && ((o.looksAt l.toArray).all fun t => ((List.range l.length).all fun j => decide (dstOf l j ≠ some t)) || ((List.range l.length).any fun j => decide (dstOf l j = some t) && waitB l i j))
  | none => true
theorem knowB_spec (h : knowB l = true) {i : Nat} {o : Oper} (ho : l[i]? = some o) : o.guard = none ∧ (∀ cs b, o.op ≠ .select cs b) ∧ ∀ t ∈ o.looksAt l.toArray, (∀ j, dstOf l j ≠ some t) ∨ ∃ j, dstOf l j = some t ∧ waitB l i j = true := by
  unfold knowB at h
  rw [List.all_eq_true] at h
  have hi : i < l.length := (List.getElem?_eq_some_iff.1 ho).1
  have h1 := h i (by simpa using hi)
  simp only [ho, Bool.and_eq_true, Option.isNone_iff_eq_none] at h1
  obtain ⟨⟨h2, h3⟩, h4⟩ := h1
  refine ⟨h2, fun cs b e => ?_, fun t ht => ?_⟩
  · rw [e] at h3; cases h3
  · rw [List.all_eq_true] at h4
    have h5 := h4 t ht
    rw [Bool.or_eq_true] at h5
    rcases h5 with h5 | h5
    · left
      intro j hj
      rw [List.all_eq_true] at h5
      have hlt : j < l.length := by
        rcases Nat.lt_or_ge j l.length with h | h
        · exact h
        · rw [dstOf, List.getElem?_eq_none h] at hj; cases hj
      have := h5 j (by simpa using hlt)
      exact of_decide_eq_true this hj
    · right
      rw [List.any_eq_true] at h5
      obtain ⟨j, _, h6⟩ := h5
      rw [Bool.and_eq_true, decide_eq_true_eq] at h6
      exact ⟨j, h6.1, h6.2⟩
theorem putAll_congr {g V : Nat → Value} (a0 : Act) : ∀ k, (∀ j, j < k → dstOf l j ≠ none → g j = V j) → putAll l g a0 k = putAll l V a0 k
  | 0, _ => rfl
  | k + 1, h => by
    have ih := putAll_congr a0 k (fun j hj => h j (by omega))
    simp only [putAll]
    rw [ih]
    cases hk : dstOf l k with
    | none => rfl
    | some t => rw [h k (by omega) (by rw [hk]; exact fun e => by cases e)]
end
theorem ev_nfK {a : Act} {t : Tmp} {v : Value} (h : a.eval (.tmp t) = v) : a.tmps[t]?.getD undef = v := by
  rw [← h]
  simp [Act.eval]
theorem notDstK {l : List Oper} {t : Tmp} (h : (l.all fun o => decide (o.dst ≠ some t)) = true) : ∀ j, dstOf l j ≠ some t := fun j hj => by
  unfold dstOf at hj
  cases ho : l[j]? with
  | none => rw [ho] at hj; cases hj
  | some o =>
    rw [ho] at hj
    rw [List.all_eq_true] at h
    exact of_decide_eq_true (h o (List.mem_of_getElem? ho)) hj
section
variable {w : World} {i1 i2 : Nat} {p1 p2 : Addr} {v1 v2 : Value} {D : Nat → Bool}
end
end Go.Proofs.Ytgplpgldhoelcaa

namespace Go.Proofs.Ytgplpgldhoelcaa
open Go Go.RowKit
section
variable {P : Program} {Q : Exit → Act → World → Prop} {l : List Oper}
theorem wp_region_some {id : Nat} {a0 : Act} {w : World} (hm : P.follows .mixedOrders = true) (hB : backB l = true) (hJ : injB l = true) (hsz : ((List.range l.length).all fun j => match dstOf l j with | some t => decide (t < a0.tmps.size) | none => true) = true) (hL : knowB l = true)
    {Γ : Type} (V : Γ → Nat → Value) (M : Γ → (Nat → Bool) → World → Prop) (c0 : Γ) (h0 : M c0 (fun j => decide (l.length ≤ j)) w.drew)
    (hs : ∀ c : Γ, ∀ a : Act, (∀ j t, dstOf l j = some t → a.eval (.tmp t) = V c j) → (∀ t, (∀ j, dstOf l j ≠ some t) → a.eval (.tmp t) = a0.eval (.tmp t)) → ∀ i o, l[i]? = some o → ∀ D : Nat → Bool, (∀ i j, D i = true → waitB l i j = true → D j = true) → D i = false → (∀ j, waitB l i j = true → D j = true) → ∀ w1, M c D w1 → runsTo P (fun u w' => ∃ c', M c' (fun j => if j = i then true else D j) w' ∧ (∀ j, j < l.length → D j = true → V c' j = V c j) ∧ (o.dst = none ∨ u = V c' i)) ((execOp a.eval o).run P w1))
    (he : ∀ c w1, M c (fun _ => true) w1 → Q .normal (putAll l (V c) a0 l.length) w1) : (Code.region id l.toArray true).wp P Q a0 w := by
  have hsz' : ∀ j t, dstOf l j = some t → t < a0.tmps.size := fun j t hd => by
    have hj : j < l.length := by
      rcases Nat.lt_or_ge j l.length with h | h
      · exact h
      · rw [dstOf, List.getElem?_eq_none h] at hd; cases hd
    rw [List.all_eq_true] at hsz
    have := hsz j (by simpa using hj)
    rw [hd] at this
    simpa using this
  refine wp_region_tab hm hB hJ hsz (fun D g w' => ∃ c, M c D w' ∧ (∀ j, l.length ≤ j → D j = true) ∧ ∀ j, D j = true → j < l.length → dstOf l j ≠ none → g j = V c j) ⟨c0, h0, fun j hj => decide_eq_true hj, fun j hD hj => ?_⟩ ?_ ?_
  · have := of_decide_eq_true hD; omega
  · rintro D g a w1 hT ⟨c, hM, hbig, hg⟩ hcl i o ho hD hpre K hK
    obtain ⟨k1, k2, k3⟩ := knowB_spec hL ho
    have hil : i < l.length := (List.getElem?_eq_some_iff.1 ho).1
    have hdst : dstOf l i = o.dst := by simp [dstOf, ho]
    rw [if_pos (by unfold Region.wanted; rw [k1])]
    have e : execOp a.eval o = execOp (putAll l (V c) a0 l.length).eval o := by
      refine execOp_congr o k2 fun x hx => ?_
      cases x with
      | tmp t =>
        have ht : t ∈ o.looksAt l.toArray := List.mem_append_left _ (List.mem_filterMap.2 ⟨.tmp t, by simpa using hx, rfl⟩)
        obtain ⟨p1, p2⟩ := putAll_eval hJ (V c) a0 hsz' t l.length
        rcases k3 t ht with h | ⟨j, hj, hw⟩
        · rw [hT.out t h, p2 (fun j _ => h j)]
        · have hjl : j < l.length := by
            rcases Nat.lt_or_ge j l.length with h | h
            · exact h
            · rw [dstOf, List.getElem?_eq_none h] at hj; cases hj
          rw [hT.at_ j t hj (hpre j hw), p1 j hjl hj, hg j (hpre j hw) hjl (by rw [hj]; exact fun e => by cases e)]
      | _ => rfl
    have step : ∀ u w', (∃ c', M c' (fun j => if j = i then true else D j) w' ∧ (∀ j, j < l.length → D j = true → V c' j = V c j) ∧ (o.dst = none ∨ u = V c' i)) → K (a.put o.dst u) w' := fun u w' ⟨c', hM', hsame, hu⟩ => by
      refine hK u _ ⟨c', hM', fun j hj => ?_, fun j hDj hj hd => ?_⟩
      · simp only []
        split
        · rfl
        · exact hbig j hj
      · by_cases hji : j = i
        · subst hji
          rcases hu with hu | hu
          · rw [hdst] at hd; exact absurd hu hd
          · simpa [updG] using hu
        · simp only [if_neg hji] at hDj
          rw [hsame j hj hDj]
          simpa [updG, hji] using hg j hDj hj hd
    have hV : ∀ j t, dstOf l j = some t → (putAll l (V c) a0 l.length).eval (.tmp t) = V c j := fun j t hj => by
      have hjl : j < l.length := by
        rcases Nat.lt_or_ge j l.length with h | h
        · exact h
        · rw [dstOf, List.getElem?_eq_none h] at hj; cases hj
      exact (putAll_eval hJ (V c) a0 hsz' t l.length).1 j hjl hj
    have hO : ∀ t, (∀ j, dstOf l j ≠ some t) → (putAll l (V c) a0 l.length).eval (.tmp t) = a0.eval (.tmp t) := fun t h => (putAll_eval hJ (V c) a0 hsz' t l.length).2 (fun j _ => h j)
    have hrun := hs c _ hV hO i o ho D hcl hD hpre w1 hM
    unfold Oper.wp
    rw [e]
    generalize (execOp (putAll l (V c) a0 l.length).eval o).run P w1 = res at hrun
    cases res with
    | halt x w' => simp only [runsTo] at hrun
    | ok x w' =>
      cases x <;> simp only [runsTo] at hrun <;> simp only [Oper.upon]
      case value u => exact step u _ hrun
      case skip => exact step _ _ hrun
      case enter f args =>
        refine hrun.mono fun e w'' ⟨u, he, h1⟩ => ?_
        subst he
        exact step u _ h1
  · rintro D g w1 ⟨c, hM, hbig, hg⟩ hD
    have e1 : D = fun _ => true := funext fun j => by
      rcases Nat.lt_or_ge j l.length with h | h
      · exact hD j h
      · exact hbig j h
    subst e1
    rw [putAll_congr (V := V c) a0 l.length (fun j hj hd => hg j rfl hj hd)]
    exact he c w1 hM
end
end Go.Proofs.Ytgplpgldhoelcaa

