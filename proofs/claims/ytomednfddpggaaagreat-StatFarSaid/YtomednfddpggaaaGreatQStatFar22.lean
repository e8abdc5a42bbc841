/- Contracts: what all edges weigh; how many go out of each node, and in; which edges are there twice. -/
import Derived.Test.YtomednfddpggaaaGreatQStatFar21
import Derived.Test.YtomednfddpggaaaGreatQStatFar16
import Derived.Test.YtomednfddpggaaaGreatQStatFar17
import Derived.Test.YtomednfddpggaaaGreatQStatFar07
import Derived.Test.YtomednfddpggaaaGreatQStatFar06
/- Contracts: what all edges weigh; how many go out of each node, and in; which edges are there twice. -/
namespace Go.Proofs.YtomednfddpggaaaGreat
open Go Go.RowKit
attribute [local go_sem] Oper.semAt_some
set_option maxRecDepth 20000 in
set_option maxHeartbeats 4000000 in
theorem gTotal (N : Nat) (A : Option Addr) (c : Nat) (E : List Edg) (w : World) (h : Rd w A 3 E.length (esCells E)) (hr : rightF N E = 0) :
    Calls Tryz.prog 83 #[.agg #[.int .i64 (N : Int), .slice A E.length c]] w fun e w' => e = .returned (.int .u64 (sumW E E.length)) ∧ Grows w w' := by
  obtain ⟨r1, r2, r3, r4, r5⟩ := right_in hr
  have C0 := hide (fun (W : World) (g : Grows w W) => by have := gRight N A E.length c E W (h.grows g) (by omega); rw [hr] at this; exact this)
  have HR := hide h
  have HS := hide (fun k (hk : k < E.length) => (⟨(stat_w r5 k (by omega)).1, r5 k hk⟩ : (0 ≤ sumW E k ∧ sumW E k ≤ k * 4294967296) ∧ (1 ≤ (ge E k).w ∧ (ge E k).w ≤ 4294967296)))
  have hEl : E.length ≤ 16384 := r3
  clear h hr r1 r2 r3 r4 r5
  go_enter Tryz.func83, Tryz.ntmps83
  go_wp2_with (go_at_call 31; refine (C0.out _ GG).mono ?_; rintro e w' ⟨rfl, hg⟩; obtain ⟨x0, rfl⟩ := hg.later; clear hg)
  go_loopw [11, 2] (fun i u wr => ∃ k : Nat, k ≤ E.length ∧ i = .int .i64 (k : Int) ∧ u = .int .u64 (sumW E k) ∧ ∃ y : Later x0.now, wr = y.now) (fun i _ _ => E.length - (Go.RowKit.intOf i).toNat)
  case atStart => exact ⟨0, by omega, by go_num, rfl, ⟨_, Grows.refl _⟩, rfl⟩
  case round =>
    obtain ⟨k, hk, rfl, rfl, y, rfl⟩ := hrel
    by_cases hlt : k < E.length
    · obtain ⟨b9, off9, rfl, hc9⟩ := HR.out.edgesH (by omega)
      obtain ⟨z1, z2, z3⟩ := hc9 k hlt
      obtain ⟨⟨s1, s2⟩, s3, s4⟩ := HS.out k hlt
      have hw : IntKind.u64.wrap (sumW E k + (ge E k).w) = sumW E k + (ge E k).w := IntWalk.u64_in _ (by omega)
      have HN := hide (show sumW E (k + 1) = sumW E k + (ge E k).w from rfl)
      clear hc9 s1 s2 s3 s4
      generalize (ge E k).f = ef at *
      generalize (ge E k).t = et at *
      generalize (ge E k).w = ew at *
      generalize sumW E k = q at *
      go_wp2_with fail
      go_roundw
      case measure => simp [Go.RowKit.intOf]; omega
      case rel => exact ⟨k + 1, by omega, by go_num, by rw [HN.out], ⟨_, show Grows x0.now _ from GG⟩, rfl⟩
    · obtain rfl : E.length = k := by omega
      go_wp2_with fail
      go_ret
      exact ⟨rfl, GG⟩
def DegAt (W0 : World) (N g1 g2 : Nat) (L1 L2 : List Int) (wr : World) : Prop :=
  ∃ y : Later W0, wr = y.now ∧ Arr y.now g1 3 (L1.map (.int .i64)) ∧ Arr y.now g2 3 (L2.map (.int .i64)) ∧ L1.length = N ∧ L2.length = N ∧ g1 ≠ g2 ∧ W0.heap.size ≤ g1 ∧ W0.heap.size ≤ g2
theorem DegAt.grow {W0 : World} {N g1 g2 : Nat} {L1 L2 : List Int} {wr w2 : World} (h : DegAt W0 N g1 g2 L1 L2 wr) (hg : Grows wr w2) : DegAt W0 N g1 g2 L1 L2 w2 := by
  obtain ⟨y, rfl, h1, h2, h3⟩ := h
  exact ⟨⟨w2, y.grows.trans hg⟩, rfl, h1.grow hg, h2.grow hg, h3⟩
theorem DegAt.put1 {W0 : World} {N g1 g2 : Nat} {L1 L2 : List Int} {wr : World} (h : DegAt W0 N g1 g2 L1 L2 wr) (j : Nat) (b : Int) : DegAt W0 N g1 g2 (L1.set j b) L2 (wr.setCell ⟨g1, j, none⟩ (.int .i64 b)) := by
  obtain ⟨y, rfl, h1, h2, h3, h4, h5, h6, h7⟩ := h
  refine ⟨⟨_, y.grows.set h6 _⟩, rfl, ?_, h2.other h5 _, by simpa using h3, h4, h5, h6, h7⟩
  rw [List.map_set]
  exact h1.set j _
theorem DegAt.put2 {W0 : World} {N g1 g2 : Nat} {L1 L2 : List Int} {wr : World} (h : DegAt W0 N g1 g2 L1 L2 wr) (j : Nat) (b : Int) : DegAt W0 N g1 g2 L1 (L2.set j b) (wr.setCell ⟨g2, j, none⟩ (.int .i64 b)) := by
  obtain ⟨y, rfl, h1, h2, h3, h4, h5, h6, h7⟩ := h
  refine ⟨⟨_, y.grows.set h7 _⟩, rfl, h1.other (Ne.symm h5) _, ?_, h3, by simpa using h4, h5, h6, h7⟩
  rw [List.map_set]
  exact h2.set j _
theorem deg_rel {W wx : World} {N b c : Nat} (hb : Arr wx b 3 (List.replicate N (.int .i64 0))) (hc : Arr wx c 3 (List.replicate N (.int .i64 0))) (hne : b ≠ c) (hg : Grows W wx) (hB : W.heap.size ≤ b ∧ W.heap.size ≤ c) :
    ∃ g1 g2, Value.slice (some ⟨b, 0, none⟩) N N = .slice (some ⟨g1, 0, none⟩) N N ∧ Value.slice (some ⟨c, 0, none⟩) N N = .slice (some ⟨g2, 0, none⟩) N N ∧ DegAt W N g1 g2 (List.replicate N 0) (List.replicate N 0) wx :=
  ⟨b, c, rfl, rfl, ⟨wx, hg⟩, rfl, by simpa using hb, by simpa using hc, by simp, by simp, hne, hB.1, hB.2⟩
set_option maxRecDepth 40000 in
set_option maxHeartbeats 8000000 in
theorem gDegrees (N : Nat) (A : Option Addr) (c : Nat) (E : List Edg) (w : World) (h : Rd w A 3 E.length (esCells E)) (hr : rightF N E = 0) :
    Calls Tryz.prog 84 #[.agg #[.int .i64 (N : Int), .slice A E.length c]] w fun e w' => ∃ g1 g2, e = .returned (.tuple #[.slice (some ⟨g1, 0, none⟩) N N, .slice (some ⟨g2, 0, none⟩) N N]) ∧ DegAt w N g1 g2 (dgL (fN E) N E.length) (dgL (tN E) N E.length) w' := by
  obtain ⟨r1, r2, r3, r4, r5⟩ := right_in hr
  rw [Int.toNat_natCast] at r4
  have C0 := hide (fun (W : World) (g : Grows w W) => by have := gRight N A E.length c E W (h.grows g) (by omega); rw [hr] at this; exact this)
  have mb := fun (w : World) => run_makeInts N (by omega) w
  have HR := hide h
  have HIN := hide (fun i (hi : i < E.length) => (⟨r4.f i hi, r4.t i hi⟩ : (fN E i < N ∧ (ge E i).f = (fN E i : Int)) ∧ (tN E i < N ∧ (ge E i).t = (tN E i : Int))))
  have HD1 := hide (fun k (hk : k ≤ E.length) v => (dgL_in (fun i hi => (r4.f i hi).1) v k hk).2.1)
  have HD2 := hide (fun k (hk : k ≤ E.length) v => (dgL_in (fun i hi => (r4.t i hi).1) v k hk).2.1)
  have HE1 := hide (fun k (hk : k ≤ E.length) v => (dgL_in (fun i hi => (r4.f i hi).1) v k hk).1)
  have HE2 := hide (fun k (hk : k ≤ E.length) v => (dgL_in (fun i hi => (r4.t i hi).1) v k hk).1)
  have hN : N ≤ 4096 := by omega
  have hEl : E.length ≤ 16384 := r3
  clear h hr r1 r2 r3 r4 r5
  go_enter Tryz.func84, Tryz.ntmps84
  go_upto_region 3 with (go_at_call 31; refine (C0.out _ GG).mono ?_; rintro e w' ⟨rfl, hg⟩; obtain ⟨x0, rfl⟩ := hg.later; clear hg)
  have hgw : Grows w x0.now := GG
  have z1 : Arr x0.now w.heap.size 24 [.int .i64 (N : Int), .slice A E.length c] := (Arr.make w _ _).grow x0.grows
  have hbw : w.heap.size < x0.now.heap.size := z1.lt
  clear C0
  generalize hbw0 : w.heap.size = b1 at *
  replace hbw0 := hide hbw0
  go_cut [2, 3] (fun s2 s3 wx => ∃ g1 g2, s2 = .slice (some ⟨g1, 0, none⟩) N N ∧ s3 = .slice (some ⟨g2, 0, none⟩) N N ∧ DegAt x0.now N g1 g2 (List.replicate N 0) (List.replicate N 0) wx)
  case first =>
    go_region
    all_goals go_wp2_with fail
    all_goals go_meet
    all_goals (case rel =>
      refine deg_rel ?_ ?_ (by omega) GG (by omega)
      all_goals exact ⟨by simp [heap_drew, heap_push, Array.getElem_push, Array.getElem?_push, eq_add2] <;> omega⟩)
  case rest =>
    obtain ⟨g1, g2, rfl, rfl, hat⟩ := hcut
    have HB := hide (show DegAt x0.now N g1 g2 (dgL (fN E) N 0) (dgL (tN E) N 0) _ from hat)
    obtain ⟨y, rfl, _⟩ := id hat
    clear hat mb
    go_wp2_with fail
    go_loopw [18] (fun i wr => ∃ k : Nat, k ≤ E.length ∧ i = .int .i64 (k : Int) ∧ DegAt x0.now N g1 g2 (dgL (fN E) N k) (dgL (tN E) N k) wr) (fun i _ => E.length - (Go.RowKit.intOf i).toNat)
    case atStart => exact ⟨0, by omega, by go_num, HB.out⟩
    case round =>
      obtain ⟨k, hk, rfl, hb⟩ := hrel
      have HBK := hide hb
      obtain ⟨y3, rfl, a1, a2, l1, l2, hne, hb1, hb2⟩ := hb
      clear HB
      by_cases hlt : k < E.length
      · obtain ⟨⟨hf, ef⟩, ht, et⟩ := HIN.out k hlt
        have u1 := HD1.out k hk (fN E k)
        have u2 := HD2.out k hk (tN E k)
        have v1 := HE1.out k hk (fN E k)
        have v2 := HE2.out k hk (tN E k)
        have m1 := a1.mine (fN E k) (gi_at (by rw [l1]; exact hf))
        have m2 := a2.mine (tN E k) (gi_at (by rw [l2]; exact ht))
        have HS1 := hide (show dgL (fN E) N (k + 1) = (dgL (fN E) N k).set (fN E k) (gi (dgL (fN E) N k) (fN E k) + 1) from rfl)
        have HS2 := hide (show dgL (tN E) N (k + 1) = (dgL (tN E) N k).set (tN E k) (gi (dgL (tN E) N k) (tN E k) + 1) from rfl)
        have hn1 : ¬ y3.now.heap.size = g1 := by have := a1.lt; omega
        have hn2 : ¬ g1 = y3.now.heap.size := by omega
        have hn3 : ¬ y3.now.heap.size = g2 := by have := a2.lt; omega
        have hn4 : ¬ g2 = y3.now.heap.size := by omega
        have hne2 : ¬ g2 = g1 := fun e => hne e.symm
        obtain ⟨b9, off9, rfl, hc9⟩ := HR.out.edgesH (by omega)
        obtain ⟨z4, z5, z6⟩ := hc9 k hlt
        rw [ef] at z4
        rw [et] at z5
        have c1 : Holds x0.now _ _ := ⟨hgw.keeps z4.cell⟩
        have c2 : Holds x0.now _ _ := ⟨hgw.keeps z5.cell⟩
        have c3 : Holds x0.now _ _ := ⟨hgw.keeps z6.cell⟩
        clear z4 z5 z6 hc9 ef et a1 a2 HD1 HD2 HE1 HE2
        generalize dgL (fN E) N k = L1 at *
        generalize dgL (tN E) N k = L2 at *
        generalize gi L1 (fN E k) = p1 at *
        generalize gi L2 (tN E k) = p2 at *
        generalize fN E k = uu at *
        generalize tN E k = vv at *
        generalize (ge E k).w = ew at *
        go_wp2_with fail
        go_roundw
        case measure => simp [Go.RowKit.intOf]; omega
        case rel => exact ⟨k + 1, by omega, by go_num, by rw [HS1.out, HS2.out]; exact ((HBK.out.grow ((Grows.refl _).new _)).put1 _ _).put2 _ _⟩
      · obtain rfl : E.length = k := by omega
        go_wp2_with fail
        go_ret2
        obtain ⟨y9, e9, k1, k2, k3⟩ := HBK.out
        have hgs := hgw.size
        rw [e9]
        exact ⟨g1, g2, rfl, ⟨y9.now, hgw.trans y9.grows⟩, rfl, k1, k2, k3.1, k3.2.1, k3.2.2.1, by omega, by omega⟩
def dblB (E : List Edg) (i : Nat) : Bool := (List.range i).any fun k => decide ((ge E k).f = (ge E i).f ∧ (ge E k).t = (ge E i).t)
def dblF (E : List Edg) (i : Nat) (x y : Int) : Bool := (List.range i).any fun k => decide ((ge E k).f = x ∧ (ge E k).t = y)
theorem dblF_next (E : List Edg) (i : Nat) (x y : Int) : dblF E (i + 1) x y = (decide (x = (ge E i).f ∧ y = (ge E i).t) || dblF E i x y) := by
  unfold dblF
  rw [List.range_succ, List.any_append, Bool.or_comm]
  simp only [List.any_cons, List.any_nil, Bool.or_false, eq_comm]
theorem dblF_same {E : List Edg} {i : Nat} (h : dblF E i (ge E i).f (ge E i).t = true) (x y : Int) : dblF E (i + 1) x y = dblF E i x y := by
  rw [dblF_next]
  by_cases e : x = (ge E i).f ∧ y = (ge E i).t
  · rw [e.1, e.2, h]; simp
  · simp [e]
end Go.Proofs.YtomednfddpggaaaGreat

/- Those of the first ones that are so (plain). -/
namespace Go.Proofs.YtomednfddpggaaaGreat
open Go Go.RowKit
def fltL (p : Nat → Bool) (k : Nat) : List Int := ((List.range k).filter p).map fun (i : Nat) => (i : Int)
theorem fltL_next (p : Nat → Bool) (k : Nat) : fltL p (k + 1) = if p k = true then fltL p k ++ [(k : Int)] else fltL p k := by
  unfold fltL
  rw [List.range_succ, List.filter_append]
  by_cases h : p k = true <;> simp [h]
theorem fltL_len (p : Nat → Bool) (k : Nat) : (fltL p k).length ≤ k := by
  unfold fltL
  have := List.length_filter_le p (List.range k)
  simpa using this
theorem fltL_yes {p : Nat → Bool} {k : Nat} (h : p k = true) : fltL p (k + 1) = fltL p k ++ [(k : Int)] := by rw [fltL_next, if_pos h]
theorem fltL_no {p : Nat → Bool} {k : Nat} (h : p k = false) : fltL p (k + 1) = fltL p k := by rw [fltL_next, if_neg (by rw [h]; exact Bool.false_ne_true)]
end Go.Proofs.YtomednfddpggaaaGreat

/- Contract: which edges are there twice. -/
namespace Go.Proofs.YtomednfddpggaaaGreat
open Go Go.RowKit
attribute [local go_sem] Oper.semAt_some
theorem Own.mapd {w w' : World} {b n B n' c size : Nat} {f : Int → Int → Bool} {e : TypeId} {A : Option Addr} {xs : List Value} (h : Own w B e size A n' c xs) (hm : MapPI w b n f) (hg : w.grownBy w' (some b)) : Own w' B e size A n' c xs := by
  refine World.ownsRow.kept (row := some b) h hg ?_
  obtain ⟨D, h1, _⟩ := hm
  obtain ⟨es, clock, hb, _⟩ := h1
  rcases h.2 with ⟨h3, _⟩ | ⟨g, cap, cur, h3, _, h4, _⟩
  · injection h3 with h3
    subst h3
    exact .inl rfl
  · injection h3 with h3
    subst h3
    right
    intro hc
    simp [Value.ownBlock] at hc
    subst hc
    rw [hb] at h4
    cases h4
set_option maxRecDepth 40000 in
set_option maxHeartbeats 8000000 in
theorem stDoubles (N : Nat) (A : Option Addr) (c : Nat) (E : List Edg) (w : World) (h : Rd w A 3 E.length (esCells E)) (hr : rightF N E = 0) :
    Calls Tryz.prog 23 #[.agg #[.int .i64 (N : Int), .slice A E.length c]] w fun e w' => ∃ A' c', e = .returned (.slice A' (fltL (dblB E) E.length).length c') ∧ Rd w' A' 1 (fltL (dblB E) E.length).length ((fltL (dblB E) E.length).map (.int .i64)) ∧ Grows w w' := by
  obtain ⟨r1, r2, r3, r4, r5⟩ := right_in hr
  rw [Int.toNat_natCast] at r4
  have C0 := hide (fun (W : World) (g : Grows w W) => by have := gRight N A E.length c E W (h.grows g) (by omega); rw [hr] at this; exact this)
  have HR := hide h
  have HI := hide (fun i (hi : i < E.length) => (⟨by have := (r4.f i hi); unfold I64; omega, by have := (r4.t i hi); unfold I64; omega⟩ : I64 (ge E i).f ∧ I64 (ge E i).t))
  have hN : N ≤ 4096 := by omega
  have hEl : E.length ≤ 16384 := r3
  clear h hr r1 r2 r3 r4 r5
  have hmm := @run_makeMap Tryz.prog
  go_enter Tryz.func23, Tryz.ntmps23
  go_upto_region 4 with (go_at_call 31; refine (C0.out _ GG).mono ?_; rintro e w' ⟨rfl, hg⟩; obtain ⟨x0, rfl⟩ := hg.later; clear hg)
  have hgw : Grows w x0.now := GG
  have z1 : Arr x0.now w.heap.size 24 [.int .i64 (N : Int), .slice A E.length c] := (Arr.make w _ _).grow x0.grows
  have HM := hide (MapPI.made x0.now)
  clear C0 hmm
  generalize w.heap.size = b1 at *
  have HY := hide (show Grows x0.now (x0.now.alloc (.map #[] 0)) from GG)
  generalize x0.now.alloc (.map #[] 0) = W1 at *
  obtain ⟨bM, hbM⟩ : ∃ b, b = x0.now.heap.size := ⟨_, rfl⟩
  rw [← hbM] at HM ⊢
  have hlo : x0.now.heap.size ≤ bM := by omega
  clear hbM
  obtain ⟨y0, rfl⟩ := HY.out.later
  clear HY
  go_wp2_with fail
  go_loopw [16, 2] (fun i u wr => ∃ k : Nat, k ≤ E.length ∧ i = .int .i64 (k : Int) ∧ ∃ y : Later x0.now, wr = y.now ∧ ∃ A1 c1 s1 n1, u = .slice A1 s1 c1 ∧ Hid (s1 = (fltL (dblB E) k).length) ∧ Own y.now x0.now.heap.size 3 1 A1 s1 c1 ((fltL (dblB E) k).map (.int .i64)) ∧ n1 ≤ k ∧ MapPI y.now bM n1 (dblF E k)) (fun i _ _ => E.length - (Go.RowKit.intOf i).toNat)
  case atStart => exact ⟨0, by omega, by go_num, y0, rfl, none, 0, 0, 0, rfl, rfl, Own.nil _ _ _ _, by omega, HM.out⟩
  case round =>
    obtain ⟨k, hk, rfl, y, rfl, A1, c1, s1, n1, rfl, HS1, hown, hn1, hmap⟩ := hrel
    have HO := hide hown
    have HMP := hide hmap
    clear hown HM hmap
    by_cases hlt : k < E.length
    · obtain ⟨b9, off9, rfl, hc9⟩ := HR.out.edgesH (by omega)
      obtain ⟨z4, z5, z6⟩ := hc9 k hlt
      obtain ⟨wf, wt⟩ := HI.out k hlt
      have hs1 : s1 ≤ 1000000 := by have := HS1.out; have := fltL_len (dblB E) k; omega
      have c1' : Holds x0.now _ _ := ⟨hgw.keeps z4.cell⟩
      have c2' : Holds x0.now _ _ := ⟨hgw.keeps z5.cell⟩
      have c3' : Holds x0.now _ _ := ⟨hgw.keeps z6.cell⟩
      have hdb : dblB E k = dblF E k (ge E k).f (ge E k).t := rfl
      clear z4 z5 z6 hc9
      cases hd : dblB E k with
      | true =>
        have HNX := hide (fltL_yes hd)
        rw [hd] at hdb
        have HSM := hide (show dblF E (k + 1) = dblF E k from funext fun x => funext fun y => dblF_same hdb.symm x y)
        have HDB := hide hdb
        clear hd hdb
        generalize (ge E k).f = ef at *
        generalize (ge E k).t = et at *
        generalize (ge E k).w = ew at *
        go_wp2_with (first
          | (at_lookup; refine wp_mapGetOkP rfl _ _ rfl bM n1 _ rfl (HMP.out.grows GG) ef et rfl wf wt ?_; intro z; rw [← HDB.out])
          | (at_builtin; refine wp_app1M elemInt rfl _ _ rfl x0.now GG s1 c1 A1 _ rfl (HO.out.grows GG) _ _ _ rfl inferInstance rfl (by omega) ?_; intro A6 c6 y6 hown6 hgr6; have HO6 := hide hown6; have HM6 := hide (MapPI.row (HMP.out.grows (by exact GG)) (HO.out.grows (by exact GG)) hgr6); clear hown6 hgr6))
        go_roundw
        case measure => simp [Go.RowKit.intOf]; omega
        case rel => exact ⟨k + 1, by omega, by go_num, y6, rfl, A6, c6, s1 + 1, n1, rfl, by show s1 + 1 = _; rw [HNX.out, List.length_append, ← HS1.out]; rfl, by rw [HNX.out, List.map_append]; exact HO6.out, by omega, by rw [HSM.out]; exact HM6.out⟩
      | false =>
        have HNX := hide (fltL_no hd)
        rw [hd] at hdb
        have HSM := hide (show dblF E (k + 1) = fun p q => decide (p = (ge E k).f ∧ q = (ge E k).t) || dblF E k p q from funext fun x => funext fun y => dblF_next E k x y)
        have HDB := hide hdb
        clear hd hdb
        generalize (ge E k).f = ef at *
        generalize (ge E k).t = et at *
        generalize (ge E k).w = ew at *
        go_wp2_with (first
          | (at_lookup; refine wp_mapGetOkP rfl _ _ rfl bM n1 _ rfl (HMP.out.grows GG) ef et rfl wf wt ?_; intro z; rw [← HDB.out])
          | (at_mapUpdate; refine wp_mapPutP rfl _ _ _ rfl bM n1 _ rfl (HMP.out.grows GG) (by unfold maxLen; omega) ef et k rfl rfl wf wt ⟨by omega, by omega⟩ ?_; intro w1 hmap1 hg1; have HM6 := hide hmap1; have HO6 := hide (Own.mapd (HO.out.grows (by exact GG)) (HMP.out.grows (by exact GG)) hg1); obtain ⟨y6, rfl⟩ := ((show Grows x0.now _ from (by exact GG)).row hlo hg1).later; clear hmap1 hg1))
        go_roundw
        case measure => simp [Go.RowKit.intOf]; omega
        case rel => exact ⟨k + 1, by omega, by go_num, y6, rfl, A1, c1, s1, n1 + 1, rfl, by show s1 = _; rw [HNX.out]; exact HS1.out, by rw [HNX.out]; exact HO6.out, by omega, by rw [HSM.out]; exact HM6.out⟩
    · obtain rfl : E.length = k := by omega
      go_wp2_with fail
      rw [← HS1.out]
      go_ret
      exact ⟨A1, c1, rfl, HO.out.rd, hgw.trans y.grows⟩
end Go.Proofs.YtomednfddpggaaaGreat

/- Contract: which edges are there twice, by the document's answer. -/
namespace Go.Proofs.YtomednfddpggaaaGreat
open Go Go.RowKit
attribute [local go_sem] Oper.semAt_some
def dblP (E : List Edg) (i : Nat) (k : Nat) : Bool := (List.range k).any fun k => decide ((ge E k).f = (ge E i).f ∧ (ge E k).t = (ge E i).t)
theorem dblP_next (E : List Edg) (i k : Nat) : dblP E i (k + 1) = (dblP E i k || (decide ((ge E k).f = (ge E i).f) && decide ((ge E k).t = (ge E i).t))) := by
  unfold dblP
  rw [List.range_succ, List.any_append]
  simp only [List.any_cons, List.any_nil, Bool.or_false, Bool.decide_and]
set_option maxRecDepth 40000 in
set_option maxHeartbeats 8000000 in
theorem r38Doubles (N : Nat) (A : Option Addr) (c : Nat) (E : List Edg) (w : World) (h : Rd w A 3 E.length (esCells E)) (hr : rightF N E = 0) :
    Calls Tryz.prog 24 #[.agg #[.int .i64 (N : Int), .slice A E.length c]] w fun e w' => ∃ A' c', e = .returned (.slice A' (fltL (dblB E) E.length).length c') ∧ Rd w' A' 1 (fltL (dblB E) E.length).length ((fltL (dblB E) E.length).map (.int .i64)) ∧ Grows w w' := by
  obtain ⟨r1, r2, r3, r4, r5⟩ := right_in hr
  have C0 := hide (fun (W : World) (g : Grows w W) => by have := r5Right N A E.length c E W (h.grows g) (by omega); rw [hr] at this; exact this)
  have HR := hide h
  have hEl : E.length ≤ 16384 := r3
  clear h hr r1 r2 r3 r4 r5
  go_enter Tryz.func24, Tryz.ntmps24
  go_upto_region 2 with fail
  go_wp2_with fail
  have z1 : Arr (w.alloc (.cells #[.int .i64 (N : Int), .slice A E.length c] 24)) w.heap.size 24 [.int .i64 (N : Int), .slice A E.length c] := Arr.make w _ _
  have hgw : Grows w (w.alloc (.cells #[.int .i64 (N : Int), .slice A E.length c] 24)) := GG
  generalize w.alloc (.cells #[.int .i64 (N : Int), .slice A E.length c] 24) = W0 at *
  generalize w.heap.size = b1 at *
  go_loopw [4, 3] (fun i u wr => ∃ k : Nat, k ≤ E.length ∧ i = .int .i64 (k : Int) ∧ ∃ y : Later W0, wr = y.now ∧ ∃ A1 c1 s1, u = .slice A1 s1 c1 ∧ Hid (s1 = (fltL (dblB E) k).length) ∧ Own y.now W0.heap.size 3 1 A1 s1 c1 ((fltL (dblB E) k).map (.int .i64))) (fun i _ _ => E.length - (Go.RowKit.intOf i).toNat)
  case atStart => exact ⟨0, by omega, by go_num, ⟨_, Grows.refl _⟩, rfl, none, 0, 0, rfl, rfl, Own.nil _ _ _ _⟩
  case round =>
    obtain ⟨k, hk, rfl, y, rfl, A1, c1, s1, rfl, HS1, hown⟩ := hrel
    have HO := hide hown
    clear hown
    by_cases hlt : k < E.length
    · have hs1 : s1 ≤ 1000000 := by have := HS1.out; have := fltL_len (dblB E) k; omega
      have HDB := hide (show dblB E k = dblP E k k from rfl)
      have HDN := hide (fun j => dblP_next E k j)
      go_upto_region 6 with (go_at_call 36; refine (C0.out _ (hgw.trans GG)).mono ?_; rintro e w' ⟨rfl, hg⟩; obtain ⟨y1, rfl⟩ := hg.later; clear hg)
      have HGG := hide (show Grows y.now y1.now from y1.grows)
      obtain ⟨b9, off9, rfl, hc9⟩ := HR.out.edgesH (by omega)
      have HC := hide (fun j (hj : j < E.length) => hc9 j hj)
      obtain ⟨z4, z5, z6⟩ := hc9 k hlt
      have d1' : Holds W0 _ _ := ⟨hgw.keeps z4.cell⟩
      have d2' : Holds W0 _ _ := ⟨hgw.keeps z5.cell⟩
      clear hc9 z4 z5 z6
      go_wp2_with fail
      go_loopw [6, 5] (fun i u wr => ∃ j : Nat, j ≤ k ∧ i = .int .i64 (j : Int) ∧ u = .bool (dblP E k j) ∧ ∃ y2 : Later y1.now, wr = y2.now) (fun i _ _ => k - (Go.RowKit.intOf i).toNat)
      case atStart => exact ⟨0, by omega, by go_num, rfl, ⟨_, Grows.refl _⟩, rfl⟩
      case round =>
        obtain ⟨j, hj, rfl, rfl, y2, rfl⟩ := hrel
        by_cases hlj : j < k
        · have hdn := HDN.out j
          obtain ⟨z4, z5, z6⟩ := HC.out j (by omega)
          have e1' : Holds W0 _ _ := ⟨hgw.keeps z4.cell⟩
          have e2' : Holds W0 _ _ := ⟨hgw.keeps z5.cell⟩
          have HST := hide hdn
          have hje : j < E.length := by omega
          clear z4 z5 z6 hdn
          obtain ⟨p, hp⟩ : ∃ p, decide ((ge E j).f = (ge E k).f) = p := ⟨_, rfl⟩
          obtain ⟨q, hq⟩ : ∃ q, decide ((ge E j).t = (ge E k).t) = q := ⟨_, rfl⟩
          rw [hp, hq] at HST
          have hp2 : ((ge E j).f == (ge E k).f) = p := by rw [← hp]; rfl
          have hq2 : ((ge E j).t == (ge E k).t) = q := by rw [← hq]; rfl
          clear hp hq
          generalize dblP E k j = l at *
          generalize ge E j = ej at *
          generalize ge E k = ek at *
          cases l with
          | true =>
            go_upto_region 9 with fail
            ((first | refine wp_region_gen (by kernel_rfl) (by kernel_rfl) ?_); (repeat' (first | (refine gLex_val0 rfl (by kernel_rfl) (fun K hK => ?_); (go_simp; (try (simp only [↓IntWalk.iteOmega]; try go_simp)); (try simp (disch := omega) only [IntWalk.i64_in]); (try simp (disch := omega) only [IntWalk.u64_in]); first | (refine hK _ ?_; clear hK K) | (apply Exists.intro; refine ⟨fun x => ?_, hK _ ?_⟩; (first | fail); clear hK K))) | (refine gLex_undef rfl rfl rfl (by kernel_rfl) (fun K hK => ?_); go_simp; refine hK _ ?_; clear hK K) | (refine gLex_ask rfl rfl rfl ?_; first | (apply gAsk_yes; kernel_rfl; intro K hK; (go_simp; (try (simp only [↓IntWalk.iteOmega]; try go_simp)); (try simp (disch := omega) only [IntWalk.i64_in]); (try simp (disch := omega) only [IntWalk.u64_in]); first | (refine hK _ ?_; clear hK K) | (apply Exists.intro; refine ⟨fun x => ?_, hK _ ?_⟩; (first | fail); clear hK K))) | ((first | apply gAsk_no1 | apply gAsk_no2); kernel_rfl; intro K hK; simp [go_sem]; refine hK _ ?_; clear hK K) | (apply gAsk_part; kernel_rfl; all_goals (intro h K hK; (try simp only [Bool.not_true] at h); (try simp only [Bool.not_false] at h); (try simp only [decide_eq_true_eq] at h); (try simp only [decide_eq_false_iff_not] at h); first | (exfalso; first | contradiction | omega) | (go_simp; (try (simp only [↓IntWalk.iteOmega]; try go_simp)); (try simp (disch := omega) only [IntWalk.i64_in]); (try simp (disch := omega) only [IntWalk.u64_in]); first | (refine hK _ ?_; clear hK K) | (apply Exists.intro; refine ⟨fun x => ?_, hK _ ?_⟩; (first | fail); clear hK K))))))); all_goals ((apply gLex_end); intro y9))
            go_wp2_with fail
            go_roundw
            case measure => simp [Go.RowKit.intOf]; omega
            case rel => exact ⟨j + 1, by omega, by go_num, by rw [HST.out]; rfl, ⟨y9.now, y2.grows.trans y9.grows⟩, rfl⟩
          | false =>
            cases p with
            | false =>
              go_upto_region 9 with fail
              ((first | refine wp_region_gen (by kernel_rfl) (by kernel_rfl) ?_); (repeat' (first | (refine gLex_val0 rfl (by kernel_rfl) (fun K hK => ?_); (go_simp; (try (simp only [↓IntWalk.iteOmega]; try go_simp)); (try simp (disch := omega) only [IntWalk.i64_in]); (try simp (disch := omega) only [IntWalk.u64_in]); first | (refine hK _ ?_; clear hK K) | (apply Exists.intro; refine ⟨fun x => ?_, hK _ ?_⟩; (first | fail); clear hK K))) | (refine gLex_undef rfl rfl rfl (by kernel_rfl) (fun K hK => ?_); go_simp; refine hK _ ?_; clear hK K) | (refine gLex_ask rfl rfl rfl ?_; first | (apply gAsk_yes; kernel_rfl; intro K hK; (go_simp; (try (simp only [↓IntWalk.iteOmega]; try go_simp)); (try simp (disch := omega) only [IntWalk.i64_in]); (try simp (disch := omega) only [IntWalk.u64_in]); first | (refine hK _ ?_; clear hK K) | (apply Exists.intro; refine ⟨fun x => ?_, hK _ ?_⟩; (first | fail); clear hK K))) | ((first | apply gAsk_no1 | apply gAsk_no2); kernel_rfl; intro K hK; simp [go_sem]; refine hK _ ?_; clear hK K) | (apply gAsk_part; kernel_rfl; all_goals (intro h K hK; (try simp only [Bool.not_true] at h); (try simp only [Bool.not_false] at h); (try simp only [decide_eq_true_eq] at h); (try simp only [decide_eq_false_iff_not] at h); first | (exfalso; first | contradiction | omega) | (go_simp; (try (simp only [↓IntWalk.iteOmega]; try go_simp)); (try simp (disch := omega) only [IntWalk.i64_in]); (try simp (disch := omega) only [IntWalk.u64_in]); first | (refine hK _ ?_; clear hK K) | (apply Exists.intro; refine ⟨fun x => ?_, hK _ ?_⟩; (first | fail); clear hK K))))))); all_goals ((apply gLex_end); intro y9))
              go_wp2_with fail
              go_roundw
              case measure => simp [Go.RowKit.intOf]; omega
              case rel => exact ⟨j + 1, by omega, by go_num, by rw [HST.out]; rfl, ⟨y9.now, y2.grows.trans y9.grows⟩, rfl⟩
            | true =>
              cases q with
              | false =>
                go_upto_region 9 with fail
                ((first | refine wp_region_gen (by kernel_rfl) (by kernel_rfl) ?_); (repeat' (first | (refine gLex_val0 rfl (by kernel_rfl) (fun K hK => ?_); (go_simp; (try (simp only [↓IntWalk.iteOmega]; try go_simp)); (try simp (disch := omega) only [IntWalk.i64_in]); (try simp (disch := omega) only [IntWalk.u64_in]); first | (refine hK _ ?_; clear hK K) | (apply Exists.intro; refine ⟨fun x => ?_, hK _ ?_⟩; (first | fail); clear hK K))) | (refine gLex_undef rfl rfl rfl (by kernel_rfl) (fun K hK => ?_); go_simp; refine hK _ ?_; clear hK K) | (refine gLex_ask rfl rfl rfl ?_; first | (apply gAsk_yes; kernel_rfl; intro K hK; (go_simp; (try (simp only [↓IntWalk.iteOmega]; try go_simp)); (try simp (disch := omega) only [IntWalk.i64_in]); (try simp (disch := omega) only [IntWalk.u64_in]); first | (refine hK _ ?_; clear hK K) | (apply Exists.intro; refine ⟨fun x => ?_, hK _ ?_⟩; (first | fail); clear hK K))) | ((first | apply gAsk_no1 | apply gAsk_no2); kernel_rfl; intro K hK; simp [go_sem]; refine hK _ ?_; clear hK K) | (apply gAsk_part; kernel_rfl; all_goals (intro h K hK; (try simp only [Bool.not_true] at h); (try simp only [Bool.not_false] at h); (try simp only [decide_eq_true_eq] at h); (try simp only [decide_eq_false_iff_not] at h); first | (exfalso; first | contradiction | omega) | (go_simp; (try (simp only [↓IntWalk.iteOmega]; try go_simp)); (try simp (disch := omega) only [IntWalk.i64_in]); (try simp (disch := omega) only [IntWalk.u64_in]); first | (refine hK _ ?_; clear hK K) | (apply Exists.intro; refine ⟨fun x => ?_, hK _ ?_⟩; (first | fail); clear hK K))))))); all_goals ((apply gLex_end); intro y9))
                go_wp2_with fail
                go_roundw
                case measure => simp [Go.RowKit.intOf]; omega
                case rel => exact ⟨j + 1, by omega, by go_num, by rw [HST.out]; rfl, ⟨y9.now, y2.grows.trans y9.grows⟩, rfl⟩
              | true =>
                go_upto_region 9 with fail
                ((first | refine wp_region_gen (by kernel_rfl) (by kernel_rfl) ?_); (repeat' (first | (refine gLex_val0 rfl (by kernel_rfl) (fun K hK => ?_); (go_simp; (try (simp only [↓IntWalk.iteOmega]; try go_simp)); (try simp (disch := omega) only [IntWalk.i64_in]); (try simp (disch := omega) only [IntWalk.u64_in]); first | (refine hK _ ?_; clear hK K) | (apply Exists.intro; refine ⟨fun x => ?_, hK _ ?_⟩; (first | fail); clear hK K))) | (refine gLex_undef rfl rfl rfl (by kernel_rfl) (fun K hK => ?_); go_simp; refine hK _ ?_; clear hK K) | (refine gLex_ask rfl rfl rfl ?_; first | (apply gAsk_yes; kernel_rfl; intro K hK; (go_simp; (try (simp only [↓IntWalk.iteOmega]; try go_simp)); (try simp (disch := omega) only [IntWalk.i64_in]); (try simp (disch := omega) only [IntWalk.u64_in]); first | (refine hK _ ?_; clear hK K) | (apply Exists.intro; refine ⟨fun x => ?_, hK _ ?_⟩; (first | fail); clear hK K))) | ((first | apply gAsk_no1 | apply gAsk_no2); kernel_rfl; intro K hK; simp [go_sem]; refine hK _ ?_; clear hK K) | (apply gAsk_part; kernel_rfl; all_goals (intro h K hK; (try simp only [Bool.not_true] at h); (try simp only [Bool.not_false] at h); (try simp only [decide_eq_true_eq] at h); (try simp only [decide_eq_false_iff_not] at h); first | (exfalso; first | contradiction | omega) | (go_simp; (try (simp only [↓IntWalk.iteOmega]; try go_simp)); (try simp (disch := omega) only [IntWalk.i64_in]); (try simp (disch := omega) only [IntWalk.u64_in]); first | (refine hK _ ?_; clear hK K) | (apply Exists.intro; refine ⟨fun x => ?_, hK _ ?_⟩; (first | fail); clear hK K))))))); all_goals ((apply gLex_end); intro y9))
                go_wp2_with fail
                go_roundw
                case measure => simp [Go.RowKit.intOf]; omega
                case rel => exact ⟨j + 1, by omega, by go_num, by rw [HST.out]; rfl, ⟨y9.now, y2.grows.trans y9.grows⟩, rfl⟩
        · obtain rfl : k = j := by omega
          rw [← HDB.out]
          have HO2 := hide (HO.out.grows (HGG.out.trans y2.grows))
          have hgz : Grows W0 y2.now := y.grows.trans (y1.grows.trans y2.grows)
          cases hd : dblB E k with
          | false =>
            have HNX := hide (fltL_no hd)
            clear hd
            go_wp2_with fail
            go_roundw
            case measure => simp [Go.RowKit.intOf]; omega
            case rel => exact ⟨k + 1, by omega, by go_num, ⟨y2.now, hgz⟩, rfl, A1, c1, s1, rfl, by show s1 = _; rw [HNX.out]; exact HS1.out, by rw [HNX.out]; exact HO2.out⟩
          | true =>
            have HNX := hide (fltL_yes hd)
            clear hd
            go_wp2_with (at_builtin; refine wp_app1 elemInt rfl _ _ rfl W0 (hgz.trans GG) s1 c1 A1 _ rfl (HO2.out.grows GG) _ _ _ rfl inferInstance rfl (by omega) ?_; intro A6 c6 y6 hown6; have HO6 := hide hown6; clear hown6)
            go_roundw
            case measure => simp [Go.RowKit.intOf]; omega
            case rel => exact ⟨k + 1, by omega, by go_num, y6, rfl, A6, c6, s1 + 1, rfl, by show s1 + 1 = _; rw [HNX.out, List.length_append, ← HS1.out]; rfl, by rw [HNX.out, List.map_append]; exact HO6.out⟩
    · obtain rfl : E.length = k := by omega
      go_wp2_with fail
      rw [← HS1.out]
      go_ret
      exact ⟨A1, c1, rfl, HO.out.rd, hgw.trans y.grows⟩
end Go.Proofs.YtomednfddpggaaaGreat

/- Regions that draw their order: what each operation leaves is known, and what is kept of the world, whatever is done already. -/
namespace Go.Proofs.YtomednfddpggaaaGreat
open Go Go.RowKit
section
variable {P : Program} {Q : Exit → Act → World → Prop} {l : List Oper}
theorem wp_region_keep {id : Nat} {a0 : Act} {w : World} (hm : P.follows .mixedOrders = true) (hB : backB l = true) (hJ : injB l = true) (hsz : ((List.range l.length).all fun j => match dstOf l j with | some t => decide (t < a0.tmps.size) | none => true) = true) (hL : knowB l = true)
    (V : Nat → Value) (M : (Nat → Bool) → World → Prop) (h0 : M (fun j => decide (l.length ≤ j)) w.drew)
    (hs : ∀ a : Act, (∀ j t, dstOf l j = some t → a.eval (.tmp t) = V j) → (∀ t, (∀ j, dstOf l j ≠ some t) → a.eval (.tmp t) = a0.eval (.tmp t)) → ∀ i o, l[i]? = some o → ∀ D : Nat → Bool, (∀ i j, D i = true → waitB l i j = true → D j = true) → D i = false → (∀ j, waitB l i j = true → D j = true) → ∀ w1, M D w1 → runsTo P (fun u w' => M (fun j => if j = i then true else D j) w' ∧ (o.dst = none ∨ u = V i)) ((execOp a.eval o).run P w1))
    (he : ∀ w1, M (fun _ => true) w1 → Q .normal (putAll l V a0 l.length) w1) : (Code.region id l.toArray true).wp P Q a0 w := by
  have hsz' : ∀ j t, dstOf l j = some t → t < a0.tmps.size := fun j t hd => by
    have hj : j < l.length := by
      rcases Nat.lt_or_ge j l.length with h | h
      · exact h
      · rw [dstOf, List.getElem?_eq_none h] at hd; cases hd
    rw [List.all_eq_true] at hsz
    have := hsz j (by simpa using hj)
    rw [hd] at this
    simpa using this
  refine wp_region_tab hm hB hJ hsz (fun D g w' => M D w' ∧ (∀ j, l.length ≤ j → D j = true) ∧ ∀ j, D j = true → j < l.length → dstOf l j ≠ none → g j = V j) ⟨h0, fun j hj => decide_eq_true hj, fun j hD hj => ?_⟩ ?_ ?_
  · have := of_decide_eq_true hD; omega
  · rintro D g a w1 hT ⟨hM, hbig, hg⟩ hcl i o ho hD hpre K hK
    obtain ⟨k1, k2, k3⟩ := knowB_spec hL ho
    have hil : i < l.length := (List.getElem?_eq_some_iff.1 ho).1
    have hdst : dstOf l i = o.dst := by simp [dstOf, ho]
    rw [if_pos (by unfold Region.wanted; rw [k1])]
    have e : execOp a.eval o = execOp (putAll l V a0 l.length).eval o := by
      refine execOp_congr o k2 fun x hx => ?_
      cases x with
      | tmp t =>
        have ht : t ∈ o.looksAt l.toArray := List.mem_append_left _ (List.mem_filterMap.2 ⟨.tmp t, by simpa using hx, rfl⟩)
        obtain ⟨p1, p2⟩ := putAll_eval hJ V a0 hsz' t l.length
        rcases k3 t ht with h | ⟨j, hj, hw⟩
        · rw [hT.out t h, p2 (fun j _ => h j)]
        · have hjl : j < l.length := by
            rcases Nat.lt_or_ge j l.length with h | h
            · exact h
            · rw [dstOf, List.getElem?_eq_none h] at hj; cases hj
          rw [hT.at_ j t hj (hpre j hw), p1 j hjl hj, hg j (hpre j hw) hjl (by rw [hj]; exact fun e => by cases e)]
      | _ => rfl
    have step : ∀ u w', M (fun j => if j = i then true else D j) w' → (o.dst = none ∨ u = V i) → K (a.put o.dst u) w' := fun u w' hM' hu => by
      refine hK u _ ⟨hM', fun j hj => ?_, fun j hDj hj hd => ?_⟩
      · simp only []
        split
        · rfl
        · exact hbig j hj
      · by_cases hji : j = i
        · subst hji
          rcases hu with hu | hu
          · rw [hdst] at hd; exact absurd hu hd
          · simpa [updG] using hu
        · simp only [if_neg hji] at hDj
          simpa [updG, hji] using hg j hDj hj hd
    have hV : ∀ j t, dstOf l j = some t → (putAll l V a0 l.length).eval (.tmp t) = V j := fun j t hj => by
      have hjl : j < l.length := by
        rcases Nat.lt_or_ge j l.length with h | h
        · exact h
        · rw [dstOf, List.getElem?_eq_none h] at hj; cases hj
      exact (putAll_eval hJ V a0 hsz' t l.length).1 j hjl hj
    have hO : ∀ t, (∀ j, dstOf l j ≠ some t) → (putAll l V a0 l.length).eval (.tmp t) = a0.eval (.tmp t) := fun t h => (putAll_eval hJ V a0 hsz' t l.length).2 (fun j _ => h j)
    have hrun := hs _ hV hO i o ho D hcl hD hpre w1 hM
    unfold Oper.wp
    rw [e]
    generalize (execOp (putAll l V a0 l.length).eval o).run P w1 = res at hrun
    cases res with
    | halt x w' => simp only [runsTo] at hrun
    | ok x w' =>
      cases x <;> simp only [runsTo] at hrun <;> simp only [Oper.upon]
      case value u =>
        obtain ⟨h1, h2⟩ := hrun
        exact step u _ h1 h2
      case skip =>
        obtain ⟨h1, h2⟩ := hrun
        exact step _ _ h1 h2
      case enter f args =>
        refine hrun.mono fun e w'' ⟨u, he, h1, h2⟩ => ?_
        subst he
        exact step u _ h1 h2
  · rintro D g w1 ⟨hM, hbig, hg⟩ hD
    have e1 : D = fun _ => true := funext fun j => by
      rcases Nat.lt_or_ge j l.length with h | h
      · exact hD j h
      · exact hbig j h
    subst e1
    rw [putAll_congr (V := V) a0 l.length (fun j hj hd => hg j rfl hj hd)]
    exact he w1 hM
end
end Go.Proofs.YtomednfddpggaaaGreat

/- Contract: who hangs together, by the program: each joined to the least one that it comes to, with ways made short. -/
namespace Go.Proofs.YtomednfddpggaaaGreat
open Go Go.RowKit
attribute [local go_sem] Oper.semAt_some
def iv (L : List Nat) : List Int := L.map fun (v : Nat) => (v : Int)
theorem iv_len (L : List Nat) : (iv L).length = L.length := by simp [iv]
theorem iv_at {L : List Nat} {v : Nat} (h : v < L.length) : gi (iv L) v = (gn L v : Int) := by simp [gi, gn, iv, h]
theorem iv_set (L : List Nat) (v x : Nat) : (iv L).set v (x : Int) = iv (L.set v x) := by simp [iv, List.map_set]
theorem iv_cell {L : List Nat} {v : Nat} (h : v < L.length) : ((iv L).map (Value.int .i64))[v]? = some (.int .i64 (gn L v : Int)) := by simp [gn, iv, h]
def rootF (bo br : Nat) : Value := .func (.func 125) #[] #[.pointer (some ⟨bo, 0, none⟩), .pointer (some ⟨br, 0, none⟩)]
structure RootAt (bo br g c N : Nat) (L : List Nat) (w : World) : Prop where
  o : Arr w bo 36 [.slice (some ⟨g, 0, none⟩) N c]
  r : Arr w br 184 [rootF bo br]
  row : Row1 w g 3 1 N c ((iv L).map (.int .i64))
  wk : Wk N L
theorem RootAt.grow {bo br g c N : Nat} {L : List Nat} {w w' : World} (h : RootAt bo br g c N L w) (hg : Grows w w') : RootAt bo br g c N L w' := ⟨h.o.grow hg, h.r.grow hg, h.row.grow hg, h.wk⟩
theorem RootAt.ne {bo br g c N : Nat} {L : List Nat} {w : World} (h : RootAt bo br g c N L w) : g ≠ bo ∧ g ≠ br := ⟨h.row.ne h.o (by decide), h.row.ne h.r (by decide)⟩
theorem RootAt.put {bo br g c N : Nat} {L : List Nat} {w : World} (h : RootAt bo br g c N L w) {v x : Nat} (hk : Wk N (L.set v x)) : RootAt bo br g c N (L.set v x) (w.setCell ⟨g, v, none⟩ (.int .i64 (x : Int))) := by
  obtain ⟨n1, n2⟩ := h.ne
  refine ⟨h.o.other n1 _, h.r.other n2 _, ?_, hk⟩
  have := h.row.set v (.int .i64 (x : Int))
  rwa [← List.map_set, iv_set] at this
theorem RootAt.touch {bo br g c N : Nat} {L : List Nat} {w w' : World} {S : Nat → Prop} (h : RootAt bo br g c N L w) (ht : Touch S w w') (h1 : ¬ S bo) (h2 : ¬ S br) (h3 : ¬ S g) : RootAt bo br g c N L w' := ⟨h.o.touch ht h1, h.r.touch ht h2, h.row.touch ht h3, h.wk⟩
def KeepR (bo br g c N : Nat) (w0 : World) (L0 : List Nat) (w : World) : Prop := ∃ L, RootAt bo br g c N L w ∧ (∀ x, rt L x = rt L0 x) ∧ (∀ x, gn L0 x = rt L0 x → gn L x = rt L0 x) ∧ Touch (fun k => k = g) w0 w
theorem KeepR.grow {bo br g c N : Nat} {w0 w w' : World} {L0 : List Nat} (h : KeepR bo br g c N w0 L0 w) (hg : Grows w w') : KeepR bo br g c N w0 L0 w' := by
  obtain ⟨L, h1, h2, h3, h4⟩ := h
  exact ⟨L, h1.grow hg, h2, h3, h4.grows hg⟩
theorem KeepR.refl {bo br g c N : Nat} {w w1 : World} {L : List Nat} (h : RootAt bo br g c N L w1) (hg : Grows w w1) : KeepR bo br g c N w L w1 := ⟨L, h, fun _ => rfl, fun _ h => h, hg.touch _⟩
theorem KeepR.arr {bo br g c N : Nat} {w0 w : World} {L0 : List Nat} (h : KeepR bo br g c N w0 L0 w) : Arr w br 184 [rootF bo br] := by
  obtain ⟨L, h1, _⟩ := h
  exact h1.r
theorem KeepR.trans {bo br g c N : Nat} {w0 w w' : World} {L0 L1 : List Nat} (r2 : ∀ x, rt L1 x = rt L0 x) (r3 : ∀ x, gn L0 x = rt L0 x → gn L1 x = rt L0 x) (r4 : Touch (fun k => k = g) w0 w) (k : KeepR bo br g c N w L1 w') : KeepR bo br g c N w0 L0 w' := by
  obtain ⟨L2, s1, s2, s3, s4⟩ := k
  refine ⟨L2, s1, fun x => by rw [s2, r2], fun x hx => ?_, r4.trans s4⟩
  rw [← r2 x]
  exact s3 x (by rw [r3 x hx, r2])
def MR (bo br g c N v : Nat) (w : World) (L : List Nat) (d7 d9 : Bool) (w1 : World) : Prop :=
  if d7 = false then RootAt bo br g c N L w1 ∧ Grows w w1 else if d9 = false then KeepR bo br g c N w L w1 else ∃ L2, RootAt bo br g c N L2 w1 ∧ (∀ x, rt L2 x = rt L x) ∧ (∀ x, gn L x = rt L x → gn L2 x = rt L x) ∧ Touch (fun k => k = g) w w1 ∧ gn L2 v = rt L v
section
variable {bo br g c N v : Nat} {w w1 : World} {L : List Nat} {d7 d9 : Bool}
theorem MR.keep' (h : MR bo br g c N v w L d7 d9 w1) : KeepR bo br g c N w L w1 := by
  unfold MR at h
  split at h
  · exact KeepR.refl h.1 h.2
  · split at h
    · exact h
    · obtain ⟨L2, h1, h2, h3, h4, _⟩ := h
      exact ⟨L2, h1, h2, h3, h4⟩
theorem MR.arrs (h : MR bo br g c N v w L d7 d9 w1) : Arr w1 bo 36 [.slice (some ⟨g, 0, none⟩) N c] ∧ Arr w1 br 184 [rootF bo br] := by
  obtain ⟨L1, r1, _⟩ := h.keep'
  exact ⟨r1.o, r1.r⟩
theorem MR.first (h : MR bo br g c N v w L d7 d9 w1) (h7 : d7 = false) : RootAt bo br g c N L w1 := by
  unfold MR at h
  rw [if_pos h7] at h
  exact h.1
theorem MR.keep (h : MR bo br g c N v w L d7 d9 w1) (_ : d7 = false) : KeepR bo br g c N w L w1 := h.keep'
theorem MR.called (h9 : d9 = false) (h : KeepR bo br g c N w L w1) : MR bo br g c N v w L true d9 w1 := by
  unfold MR
  rw [if_neg (by simp), if_pos h9]
  exact h
theorem MR.mid (h : MR bo br g c N v w L d7 d9 w1) (_ : d7 = true) (_ : d9 = false) (hv : v < N) : Arr w1 bo 36 [.slice (some ⟨g, 0, none⟩) N c] ∧ Arr w1 br 184 [rootF bo br] ∧ ∃ x : Value, Mine w1 ⟨g, v, none⟩ x := by
  obtain ⟨L1, r1, _⟩ := h.keep'
  exact ⟨r1.o, r1.r, _, r1.row.mine (iv_cell (by rw [r1.wk.len]; exact hv))⟩
theorem MR.stored {y : Nat} (h7 : d7 = true) (h : MR bo br g c N v w L d7 d9 w1) (_ : d9 = false) (hv : v < N) (hst : rt L v = rt L y) : MR bo br g c N v w L d7 true (w1.setCell ⟨g, v, none⟩ (.int .i64 (rt L y : Int))) := by
  obtain ⟨L1, r1, r2, r3, r4⟩ := h.keep'
  obtain ⟨p1, p2⟩ := r1.wk.press hv
  unfold MR
  rw [if_neg (by simp [h7]), if_neg (by simp), ← hst, ← r2 v]
  have hl : v < L1.length := by rw [r1.wk.len]; exact hv
  refine ⟨_, r1.put p1, fun x => by rw [p2, r2], fun x hx => ?_, r4.set (.inl rfl) _, ?_⟩
  · rw [gn_set _ _ _ _ hl]
    split
    · rename_i e; rw [e, r2]
    · exact r3 x hx
  · rw [gn_set _ _ _ _ hl, if_pos rfl]
theorem MR.last (h : MR bo br g c N v w L true true w1) : ∃ L2, RootAt bo br g c N L2 w1 ∧ (∀ x, rt L2 x = rt L x) ∧ (∀ x, gn L x = rt L x → gn L2 x = rt L x) ∧ Touch (fun k => k = g) w w1 ∧ gn L2 v = rt L v := by
  unfold MR at h
  rwa [if_neg (by simp), if_neg (by simp)] at h
theorem MR.lastM (h : MR bo br g c N v w L true true w1) (hv : v < N) : Mine w1 ⟨g, v, none⟩ (.int .i64 (rt L v : Int)) := by
  obtain ⟨L2, h1, _, _, _, h5⟩ := h.last
  rw [← h5]
  exact h1.row.mine (iv_cell (by rw [h1.wk.len]; exact hv))
end
set_option maxRecDepth 40000 in
set_option maxHeartbeats 8000000 in
theorem ptRootFix (bo br g c N v : Nat) (L : List Nat) (w : World) (hv : v < N) (h : RootAt bo br g c N L w) (hfix : gn L v = v) :
    Calls Tryz.prog 125 #[.int .i64 (v : Int), .pointer (some ⟨bo, 0, none⟩), .pointer (some ⟨br, 0, none⟩)] w fun e w' => e = .returned (.int .i64 (rt L v : Int)) ∧ KeepR bo br g c N w L w' := by
  have hvl : v < L.length := by rw [h.wk.len]; exact hv
  have m0 := h.row.mine (iv_cell hvl)
  have HH := hide h
  have b1 := h.o
  have b2 := h.r
  have HV := hide (rt_fix hfix)
  rw [hfix] at m0
  clear h hfix
  go_enter Tryz.func125, Tryz.ntmps125
  go_wp2_with fail
  go_ret
  rw [HV.out]
  exact ⟨rfl, KeepR.refl HH.out (Grows.refl _)⟩
set_option maxRecDepth 40000 in
set_option maxHeartbeats 8000000 in
theorem ptRoot (bo br g c N : Nat) : ∀ (n v : Nat) (L : List Nat) (w : World), v ≤ n → v < N → RootAt bo br g c N L w →
    Calls Tryz.prog 125 #[.int .i64 (v : Int), .pointer (some ⟨bo, 0, none⟩), .pointer (some ⟨br, 0, none⟩)] w fun e w' => e = .returned (.int .i64 (rt L v : Int)) ∧ KeepR bo br g c N w L w' := by
  intro n
  induction n with
  | zero =>
    intro v L w hvn hv h
    have := h.wk.dn v
    exact ptRootFix bo br g c N v L w hv h (by omega)
  | succ n ih =>
    intro v L w hvn hv h
    have hvl : v < L.length := by rw [h.wk.len]; exact hv
    have m0 := h.row.mine (iv_cell hvl)
    have HH := hide h
    have b1 := h.o
    have b2 := h.r
    by_cases hfix : gn L v = v
    · exact ptRootFix bo br g c N v L w hv h hfix
    · have hdn := h.wk.dn v
      have hst := hide (h.wk.step hfix)
      have IH := hide (fun (W : World) (hW : KeepR bo br g c N w L W) => show Calls Tryz.prog 125 #[.int .i64 (gn L v : Int), .pointer (some ⟨bo, 0, none⟩), .pointer (some ⟨br, 0, none⟩)] W fun e w' => e = .returned (.int .i64 (rt L (gn L v) : Int)) ∧ KeepR bo br g c N w L w' from by
        obtain ⟨L1, r1, r2, r3, r4⟩ := hW
        refine (ih (gn L v) L1 W (by omega) (by omega) r1).mono ?_
        rintro e w' ⟨rfl, hk⟩
        rw [r2]
        exact ⟨rfl, KeepR.trans r2 r3 r4 hk⟩)
      have hb : ((gn L v : Int) != (v : Int)) = true := bne_iff_ne.2 (by omega)
      go_enter Tryz.func125, Tryz.ntmps125
      go_upto_region 2 with fail
      have HVL := hide hvl
      have HV9 := hide hv
      have HH0 := hide (show RootAt bo br g c N L w.drew from h.grow (Grows.refl _).drew)
      clear m0 h hfix hdn hvl hv hvn HH b1 b2 ih hb
      refine wp_region_keep (by kernel_rfl) (by kernel_rfl) (by kernel_rfl) (by kernel_rfl) (by kernel_rfl) (fun j => ([.slice (some ⟨g, 0, none⟩) N c, .int .i64 (v : Int), rootF bo br, .slice (some ⟨g, 0, none⟩) N c, .int .i64 (v : Int), .pointer (some ⟨g, v, none⟩), .int .i64 (gn L v : Int), .int .i64 (rt L (gn L v) : Int), .pointer (some ⟨g, v, none⟩), undef] : List Value).getD j undef) (fun D w1 => MR bo br g c N v w L (D 7) (D 9) w1) ⟨HH0.out, (Grows.refl _).drew⟩ ?hs ?he
      case hs =>
        intro a hV hO i o ho D hcl hD hpre w1 hM
        match i, ho, hD, hpre with
    | 0, ho, hD, hpre =>
      cases (show some _ = some o from ho)
      have e1 := ev_nfK ((hO 1 (notDstK (by kernel_rfl))).trans rfl)
      obtain ⟨q1, q2⟩ := MR.arrs hM
      have hvn := HV9.out
      go_simp
      all_goals exact hM
    | 1, ho, hD, hpre =>
      cases (show some _ = some o from ho)
      have e0 := ev_nfK ((hO 0 (notDstK (by kernel_rfl))).trans rfl)
      obtain ⟨q1, q2⟩ := MR.arrs hM
      have hvn := HV9.out
      go_simp
      all_goals exact hM
    | 2, ho, hD, hpre =>
      cases (show some _ = some o from ho)
      have e2 := ev_nfK ((hO 2 (notDstK (by kernel_rfl))).trans rfl)
      obtain ⟨q1, q2⟩ := MR.arrs hM
      have hvn := HV9.out
      go_simp
      all_goals exact hM
    | 3, ho, hD, hpre =>
      cases (show some _ = some o from ho)
      have e1 := ev_nfK ((hO 1 (notDstK (by kernel_rfl))).trans rfl)
      obtain ⟨q1, q2⟩ := MR.arrs hM
      have hvn := HV9.out
      go_simp
      all_goals exact hM
    | 4, ho, hD, hpre =>
      cases (show some _ = some o from ho)
      have e0 := ev_nfK ((hO 0 (notDstK (by kernel_rfl))).trans rfl)
      obtain ⟨q1, q2⟩ := MR.arrs hM
      have hvn := HV9.out
      go_simp
      all_goals exact hM
    | 5, ho, hD, hpre =>
      cases (show some _ = some o from ho)
      have e14 := ev_nfK (hV 3 14 rfl)
      have e15 := ev_nfK (hV 4 15 rfl)
      obtain ⟨q1, q2⟩ := MR.arrs hM
      have hvn := HV9.out
      go_simp
      all_goals exact hM
    | 6, ho, hD, hpre =>
      cases (show some _ = some o from ho)
      have e16 := ev_nfK (hV 5 16 rfl)
      have d7 : D 7 = false := by
        cases hd : D 7 with
        | false => rfl
        | true => exact absurd (hcl 7 6 hd (by kernel_rfl)) (by rw [hD]; exact Bool.false_ne_true)
      have hq : RootAt bo br g c N L w1 := MR.first hM d7
      have m6 := hq.row.mine (iv_cell HVL.out)
      go_simp
      all_goals (rw [d7] at hM; exact hM)
    | 7, ho, hD, hpre =>
      cases (show some _ = some o from ho)
      have e13 := ev_nfK (hV 2 13 rfl)
      have e17 := ev_nfK (hV 6 17 rfl)
      have d9 : D 9 = false := by
        cases hd : D 9 with
        | false => rfl
        | true => exact absurd (hcl 9 7 hd (by kernel_rfl)) (by rw [hD]; exact Bool.false_ne_true)
      have hq := MR.keep hM hD
      go_simp
      refine (IH.out w1 hq).mono ?_
      rintro e w' ⟨rfl, hk⟩
      exact ⟨rfl, MR.called rfl hk⟩
    | 8, ho, hD, hpre =>
      cases (show some _ = some o from ho)
      have e11 := ev_nfK (hV 0 11 rfl)
      have e12 := ev_nfK (hV 1 12 rfl)
      obtain ⟨q1, q2⟩ := MR.arrs hM
      have hvn := HV9.out
      go_simp
      all_goals exact hM
    | 9, ho, hD, hpre =>
      cases (show some _ = some o from ho)
      have e19 := ev_nfK (hV 8 19 rfl)
      have e18 := ev_nfK (hV 7 18 rfl)
      have d7 : D 7 = true := hpre 7 (by kernel_rfl)
      obtain ⟨q1, q2, x9, m9⟩ := MR.mid hM d7 hD HV9.out
      have hS := hide (MR.stored d7 hM hD HV9.out hst.out)
      rw [d7] at hS
      clear hM
      go_simp
      all_goals exact hS.out
    | n + 10, ho, hD, hpre => cases ho
      case he =>
        intro w1 hM
        simp only [putAll, dstOf, List.length_cons, List.length_nil, Nat.reduceAdd, List.getElem?_cons_zero, List.getElem?_cons_succ, Option.bind_some, List.getD_cons_zero, List.getD_cons_succ, Act.put, List.setIfInBounds_toArray, List.set_cons_zero, List.set_cons_succ]
        have HK := hide (MR.keep' hM)
        obtain ⟨q1, q2⟩ := MR.arrs hM
        have m9 := MR.lastM hM HV9.out
        have hvn := HV9.out
        clear hM hst IH HH0 HVL HV9
        go_wp2_with fail
        go_ret
        exact ⟨rfl, HK.out⟩
end Go.Proofs.YtomednfddpggaaaGreat
