/- Contract: who hangs together, by the program. -/
import Derived.Test.YtomednfddpggaaaGreatQStatFar22
import Derived.Test.YtomednfddpggaaaGreatQStatFar20
import Derived.Deep.DeepCutAuto
import Derived.Test.YtomednfddpggaaaGreatQStatFar08
import Derived.Test.YtomednfddpggaaaGreatQStatFar04
import Derived.Test.YtomednfddpggaaaGreatQStatFar03
import Derived.Shelf.SlGeneric
import Derived.Shelf.SlIterI.Nil
import Derived.Shelf.SlIterI.Sorted
import Derived.Shelf.SortM.Plain
import Derived.Shelf.SortM.SortNone
import Derived.Shelf.Slices.CompactI
import Derived.Ground.GgzProg
import Derived.Ground.SlgmProg
import Derived.Ground.Names2Prog
import Derived.Test.YtomednfddpggaaaGreatProg
/- Contract: who hangs together, by the program. -/
namespace Go.Proofs.YtomednfddpggaaaGreat
open Go Go.RowKit
attribute [local go_sem] Oper.semAt_some
theorem run_store_fnW {P : Program} {w : World} {a : Addr} {m : Mode} (fn : Fn) (first captured : Array Value) : (store a (.func fn first captured) m).run P w = stored P w a (.func fn first captured) m := run_store P w a _ m rfl
attribute [local go_sem] run_store_fnW
def idN (k : Nat) : List Nat := List.range k
theorem iv_id (k : Nat) : iv (idN (k + 1)) = iv (idN k) ++ [(k : Int)] := by simp [iv, idN, List.range_succ]
def FillAt (w : World) (b1 bo : Nat) (N : Int) (A : Option Addr) (n c k : Nat) (wr : World) : Prop :=
  ∃ y : Later w, wr = y.now ∧ ∃ A1 c1, Arr y.now b1 24 [.int .i64 N, .slice A n c] ∧ Arr y.now bo 36 [.slice A1 k c1] ∧ Own y.now w.heap.size 3 1 A1 k c1 ((iv (idN k)).map (.int .i64)) ∧ w.heap.size ≤ b1 ∧ w.heap.size ≤ bo ∧ b1 ≠ bo
theorem FillAt.next {w W : World} {b1 bo n c k c1 c6 : Nat} {N : Int} {A A1 A6 : Option Addr} {y : Later w} {y6 : Later w} (h1 : Arr y.now b1 24 [.int .i64 N, .slice A n c]) (h2 : Arr y.now bo 36 [.slice A1 k c1]) (h3 : Own y.now w.heap.size 3 1 A1 k c1 ((iv (idN k)).map (.int .i64))) (hb : w.heap.size ≤ b1 ∧ w.heap.size ≤ bo ∧ b1 ≠ bo)
    (hg : Grows y.now W) (ho : Own y6.now w.heap.size 3 1 A6 (k + 1) c6 ((iv (idN k)).map (.int .i64) ++ [.int .i64 (k : Int)])) (hgr : W.grownBy y6.now (Value.slice A1 k c1).ownBlock) :
    FillAt w b1 bo N A n c (k + 1) (y6.now.setCell ⟨bo, 0, none⟩ (.slice A6 (k + 1) c6)) := by
  have ht : Touch (fun k => ∃ p, A1 = some p ∧ p.block = k) W y6.now := (Touch.refl _ W).grown hgr fun k hk => .inl (by
    cases A1 with
    | none => simp [Value.ownBlock] at hk
    | some p => simp [Value.ownBlock] at hk; exact ⟨p, rfl, hk⟩)
  have n1 := (h3.grows hg).not_arr (h1.grow hg) (by decide)
  have n2 := (h3.grows hg).not_arr (h2.grow hg) (by decide)
  have a1 := (h1.grow hg).touch ht (fun ⟨p, hp, e⟩ => n1 p hp e)
  have a2 := (h2.grow hg).touch ht (fun ⟨p, hp, e⟩ => n2 p hp e)
  have n3 := ho.not_arr a2 (by decide)
  refine ⟨⟨_, y6.grows.set hb.2.1 _⟩, rfl, A6, c6, a1.other (Ne.symm hb.2.2) _, ?_, ?_, hb⟩
  · have := a2.set 0 (.slice A6 (k + 1) c6)
    simpa using this
  · have := ho.othr (q := ⟨bo, 0, none⟩) (fun p hp => n3 p hp) (.slice A6 (k + 1) c6)
    rw [iv_id, List.map_append]
    exact this
theorem FillAt.mid {w W : World} {bo k c1 : Nat} {A1 : Option Addr} {y : Later w} {y6 : Later w} (h2 : Arr y.now bo 36 [.slice A1 k c1]) (h3 : Own y.now w.heap.size 3 1 A1 k c1 ((iv (idN k)).map (.int .i64)))
    (hg : Grows y.now W) (hgr : W.grownBy y6.now (Value.slice A1 k c1).ownBlock) : Arr y6.now bo 36 [.slice A1 k c1] := by
  have ht : Touch (fun k => ∃ p, A1 = some p ∧ p.block = k) W y6.now := (Touch.refl _ W).grown hgr fun k hk => .inl (by
    cases A1 with
    | none => simp [Value.ownBlock] at hk
    | some p => simp [Value.ownBlock] at hk; exact ⟨p, rfl, hk⟩)
  have n2 := (h3.grows hg).not_arr (h2.grow hg) (by decide)
  exact (h2.grow hg).touch ht (fun ⟨p, hp, e⟩ => n2 p hp e)
def JoinAt (w : World) (b1 bo br g c N : Nat) (Av : Option Addr) (cv : Nat) (E : List Edg) (i : Nat) (wr : World) : Prop :=
  ∃ y : Later w, wr = y.now ∧ ∃ L, RootAt bo br g c N L y.now ∧ WkE N E i (rt L) ∧ Arr y.now b1 24 [.int .i64 (N : Int), .slice Av E.length cv]
def LastAt (w : World) (bo br g c N : Nat) (R : Nat → Nat) (k : Nat) (wr : World) : Prop :=
  ∃ y : Later w, wr = y.now ∧ ∃ L, RootAt bo br g c N L y.now ∧ (∀ x, rt L x = R x) ∧ ∀ j, j < k → gn L j = R j
set_option maxRecDepth 40000 in
set_option maxHeartbeats 8000000 in
theorem ptWeak (N : Nat) (A : Option Addr) (c : Nat) (E : List Edg) (w : World) (h : Rd w A 3 E.length (esCells E)) (hr : rightF N E = 0) :
    Calls Tryz.prog 82 #[.agg #[.int .i64 (N : Int), .slice A E.length c]] w fun e w' => ∃ g c' L, e = .returned (.slice (some ⟨g, 0, none⟩) N c') ∧ Row1 w' g 3 1 N c' ((iv L).map (.int .i64)) ∧ L.length = N ∧ (∀ u v, u < N → v < N → (gn L u = gn L v ↔ Con E All1 u v)) ∧ Grows w w' := by
  obtain ⟨r1, r2, r3, r4, r5⟩ := right_in hr
  rw [Int.toNat_natCast] at r4
  have C0 := hide (fun (W : World) (g : Grows w W) => by have := gRight N A E.length c E W (h.grows g) (by omega); rw [hr] at this; exact this)
  have HR := hide h
  have HE := hide r4
  have HIN := hide (fun i (hi : i < E.length) => (⟨r4.f i hi, r4.t i hi⟩ : (fN E i < N ∧ (ge E i).f = (fN E i : Int)) ∧ (tN E i < N ∧ (ge E i).t = (tN E i : Int))))
  have hN : N ≤ 4096 := by omega
  have hN1 : 1 ≤ N := by omega
  have hEl : E.length ≤ 16384 := r3
  clear h hr r1 r2 r3 r4 r5
  go_enter Tryz.func82, Tryz.ntmps82
  go_upto_region 3 with (go_at_call 31; refine (C0.out _ GG).mono ?_; rintro e w' ⟨rfl, hg⟩; obtain ⟨x0, rfl⟩ := hg.later; clear hg)
  have hF0 : FillAt w w.heap.size (w.heap.size + 1) N A E.length c 0 x0.now := ⟨⟨x0.now, GG⟩, rfl, none, 0, ((Arr.make w _ _).grow ((Grows.refl _).new _)).grow x0.grows, by
    have := (Arr.make (w.alloc (.cells #[.int .i64 (N : Int), .slice A E.length c] 24)) [.slice none 0 0] 36).grow x0.grows
    simpa using this, Own.nil _ _ _ _, by omega, by omega, by omega⟩
  clear C0
  obtain ⟨b1, hb1⟩ : ∃ b, w.heap.size = b := ⟨_, rfl⟩
  rw [hb1] at hF0
  rw [hb1]
  replace hb1 := hide hb1
  obtain ⟨bo, hbo⟩ : ∃ b, b1 + 1 = b := ⟨_, rfl⟩
  rw [hbo] at hF0
  rw [hbo]
  replace hbo := hide hbo
  have HB := hide hF0
  obtain ⟨y, e0, A0, c0, a1, a2, -⟩ := id hF0
  rw [e0] at HB ⊢
  clear hF0 e0 x0
  go_wp2_with fail
  go_loopw [15] (fun i wr => ∃ k : Nat, k ≤ N ∧ i = .int .i64 (k : Int) ∧ FillAt w b1 bo N A E.length c k wr) (fun i _ => N - (Go.RowKit.intOf i).toNat)
  case atStart => exact ⟨0, by omega, by go_num, HB.out⟩
  case round =>
    obtain ⟨k, hk, rfl, hb⟩ := hrel
    clear a1 a2 HB y
    obtain ⟨y, rfl, A1, c1, a1, a2, ho, hbs⟩ := hb
    have HO := hide ho
    have HBS := hide hbs
    have A1H := hide a1
    have A2H := hide a2
    clear ho hbs
    by_cases hlt : k < N
    · go_wp2_with (at_builtin; refine wp_app1M elemInt rfl _ _ rfl w GG k c1 A1 _ rfl (HO.out.grows GG) _ _ _ rfl inferInstance rfl (by omega) ?_; intro A6 c6 y6 hown6 hgr6; have HF := hide (FillAt.next A1H.out A2H.out HO.out HBS.out (by exact GG) hown6 hgr6); have m6 := FillAt.mid A2H.out HO.out (by exact GG) hgr6; clear hown6 hgr6)
      go_roundw
      case measure => simp [Go.RowKit.intOf]; omega
      case rel => exact ⟨k + 1, by omega, by go_num, HF.out⟩
    · obtain rfl : N = k := by omega
      obtain ⟨g, rfl, hgB, _⟩ := HO.out.at (by omega)
      obtain ⟨hrow, _⟩ := HO.out.row
      obtain ⟨hwk, hwe⟩ := wk_begin N E
      have HROW := hide hrow
      have HWK := hide hwk
      have HWE := hide hwe
      clear HO hrow hwk hwe
      go_upto_region 11 with fail
      have hJ : JoinAt w b1 bo y.now.heap.size g c1 N A c E 0 (y.now.alloc (.cells #[.func (.func 125) #[] #[.pointer (some ⟨bo, 0, none⟩), .pointer (some ⟨y.now.heap.size, 0, none⟩)]] 184)) :=
        ⟨⟨_, y.grows.new _⟩, rfl, idN N, ⟨a2.grow ((Grows.refl _).new _), Arr.make _ [rootF bo y.now.heap.size] _, HROW.out.grow ((Grows.refl _).new _), HWK.out⟩, HWE.out, a1.grow ((Grows.refl _).new _)⟩
      generalize y.now.alloc (.cells #[.func (.func 125) #[] #[.pointer (some ⟨bo, 0, none⟩), .pointer (some ⟨y.now.heap.size, 0, none⟩)]] 184) = W1 at *
      generalize y.now.heap.size = br at *
      clear a1 a2 A1H A2H HROW HWK HWE hlt hk
      have HJ := hide hJ
      clear hJ
      go_loopw [27] (fun i wr => ∃ k : Nat, k ≤ E.length ∧ i = .int .i64 (k : Int) ∧ JoinAt w b1 bo br g c1 N A c E k wr) (fun i _ => E.length - (Go.RowKit.intOf i).toNat)
      case atStart => exact ⟨0, by omega, by go_num, HJ.out⟩
      case round =>
        obtain ⟨k, hk, rfl, y2, rfl, L, hR, hWE, hB⟩ := hrel
        clear HJ
        by_cases hlt : k < E.length
        · obtain ⟨⟨hf, ef⟩, ht, et⟩ := HIN.out k hlt
          obtain ⟨b9, off9, rfl, hc9⟩ := HR.out.edgesH (by omega)
          obtain ⟨z1, z2, z3⟩ := hc9 k hlt
          rw [ef] at z1
          rw [et] at z2
          have HRT := hide hR
          have HWE := hide hWE
          have HBB := hide hB
          have hgb : ¬ b1 = g := fun e => (hR.row.ne hB (by decide)) e.symm
          have hbr : br < y2.now.heap.size := hR.r.lt
          have hgl : g < y2.now.heap.size := hR.row.lt
          have CRF := hide hf
          have CRT := hide ht
          have n1 := hR.o
          have n2 := hR.r
          clear hc9 hR hWE hf ht ef et
          generalize (ge E k).w = ew at *
          have hmx : ∀ a b : Nat, max (a : Int) (b : Int) = ((max a b : Nat) : Int) := fun a b => by omega
          have hmn : ∀ a b : Nat, min (a : Int) (b : Int) = ((min a b : Nat) : Int) := fun a b => by omega
          have HMX := hide (hmx (rt L (fN E k)) (rt L (tN E k)))
          have HMN := hide (hmn (rt L (fN E k)) (rt L (tN E k)))
          clear hmx hmn
          go_upto_region 13 with fail
          obtain ⟨W, hW⟩ : ∃ W, W = y2.now.alloc (.cells #[.int .i64 (fN E k : Int), .int .i64 (tN E k : Int), .int .u64 ew] 59) := ⟨_, rfl⟩
          have hgW : Grows y2.now W := by rw [hW]; exact (Grows.refl _).new _
          have HR2 := hide (HRT.out.grow hgW)
          have HB2 := hide (HBB.out.grow hgW)
          have HE2 : Arr W y2.now.heap.size 59 [.int .i64 (fN E k : Int), .int .i64 (tN E k : Int), .int .u64 ew] := by rw [hW]; exact Arr.make _ _ _
          have HE2 := hide HE2
          have HGW := hide (y2.grows.trans hgW)
          rw [← hW]
          obtain ⟨b6, hb6⟩ : ∃ b, y2.now.heap.size = b := ⟨_, rfl⟩
          rw [hb6] at HE2 hgl ⊢
          clear hW n1 n2 hB z1 z2 z3 hgW HRT HBB hb6 hbr
          have hg6 : ¬ b6 = g := by omega
          have CR := hide (fun (x : Nat) (w1 : World) (hx : x < N) (hk : KeepR bo br g c1 N W L w1) => show Calls Tryz.prog 125 #[.int .i64 (x : Int), .pointer (some ⟨bo, 0, none⟩), .pointer (some ⟨br, 0, none⟩)] w1 fun e w' => e = .returned (.int .i64 (rt L x : Int)) ∧ KeepR bo br g c1 N W L w' ∧ Touch (fun k => k = g) w1 w' from by
            obtain ⟨L1, r1, r2, r3, r4⟩ := hk
            refine (ptRoot bo br g c1 N x x L1 w1 (Nat.le_refl _) hx r1).mono ?_
            rintro e w' ⟨rfl, hk⟩
            rw [r2]
            refine ⟨rfl, KeepR.trans r2 r3 r4 hk, ?_⟩
            obtain ⟨_, _, _, _, ht⟩ := hk
            exact ht)
          refine wp_region_keep (by kernel_rfl) (by kernel_rfl) (by kernel_rfl) (by kernel_rfl) (by kernel_rfl) (fun j => ([rootF bo br, .pointer (some ⟨b6, 0, none⟩), .int .i64 (fN E k : Int), .int .i64 (rt L (fN E k) : Int), rootF bo br, .pointer (some ⟨b6, 1, none⟩), .int .i64 (tN E k : Int), .int .i64 (rt L (tN E k) : Int), .int .i64 (rt L (fN E k) : Int), .int .i64 (rt L (tN E k) : Int)] : List Value).getD j undef)
            (fun _ w1 => KeepR bo br g c1 N W L w1 ∧ Arr w1 b1 24 [.int .i64 (N : Int), .slice (some ⟨b9, off9, none⟩) E.length c] ∧ Arr w1 b6 59 [.int .i64 (fN E k : Int), .int .i64 (tN E k : Int), .int .u64 ew]) ⟨KeepR.refl (HR2.out.grow (Grows.refl _).drew) (Grows.refl _).drew, HB2.out.grow (Grows.refl _).drew, HE2.out.grow (Grows.refl _).drew⟩ ?hs ?he
          case hs =>
            intro a hV hO i o ho D hcl hD hpre w1 hM
            clear hcl
            match i, ho, hD, hpre with
            | 0, ho, hD, hpre =>
              cases (show some _ = some o from ho)
              have e4 := ev_nfK ((hO 4 (notDstK (by kernel_rfl))).trans rfl)
              obtain ⟨q1, q2, q3⟩ := hM
              have q4 := q1.arr
              go_simp
              all_goals exact ⟨q1, q2, q3⟩
            | 1, ho, hD, hpre =>
              cases (show some _ = some o from ho)
              have e6 := ev_nfK ((hO 6 (notDstK (by kernel_rfl))).trans rfl)
              obtain ⟨q1, q2, q3⟩ := hM
              have q4 := q1.arr
              go_simp
              all_goals exact ⟨q1, q2, q3⟩
            | 2, ho, hD, hpre =>
              cases (show some _ = some o from ho)
              have e32 := ev_nfK (hV 1 32 rfl)
              obtain ⟨q1, q2, q3⟩ := hM
              have q4 := q1.arr
              go_simp
              all_goals exact ⟨q1, q2, q3⟩
            | 3, ho, hD, hpre =>
              cases (show some _ = some o from ho)
              have e31 := ev_nfK (hV 0 31 rfl)
              have e33 := ev_nfK (hV 2 33 rfl)
              obtain ⟨q1, q2, q3⟩ := hM
              have q4 := q1.arr
              go_simp
              refine (CR.out _ w1 CRF.out q1).mono ?_
              rintro e w' ⟨rfl, hk, ht⟩
              exact ⟨rfl, hk, q2.touch ht (by show ¬ b1 = g; omega), q3.touch ht (by show ¬ b6 = g; omega)⟩
            | 4, ho, hD, hpre =>
              cases (show some _ = some o from ho)
              have e4 := ev_nfK ((hO 4 (notDstK (by kernel_rfl))).trans rfl)
              obtain ⟨q1, q2, q3⟩ := hM
              have q4 := q1.arr
              go_simp
              all_goals exact ⟨q1, q2, q3⟩
            | 5, ho, hD, hpre =>
              cases (show some _ = some o from ho)
              have e6 := ev_nfK ((hO 6 (notDstK (by kernel_rfl))).trans rfl)
              obtain ⟨q1, q2, q3⟩ := hM
              have q4 := q1.arr
              go_simp
              all_goals exact ⟨q1, q2, q3⟩
            | 6, ho, hD, hpre =>
              cases (show some _ = some o from ho)
              have e36 := ev_nfK (hV 5 36 rfl)
              obtain ⟨q1, q2, q3⟩ := hM
              have q4 := q1.arr
              go_simp
              all_goals exact ⟨q1, q2, q3⟩
            | 7, ho, hD, hpre =>
              cases (show some _ = some o from ho)
              have e35 := ev_nfK (hV 4 35 rfl)
              have e37 := ev_nfK (hV 6 37 rfl)
              obtain ⟨q1, q2, q3⟩ := hM
              have q4 := q1.arr
              go_simp
              refine (CR.out _ w1 CRT.out q1).mono ?_
              rintro e w' ⟨rfl, hk, ht⟩
              exact ⟨rfl, hk, q2.touch ht (by show ¬ b1 = g; omega), q3.touch ht (by show ¬ b6 = g; omega)⟩
            | 8, ho, hD, hpre =>
              cases (show some _ = some o from ho)
              have e34 := ev_nfK (hV 3 34 rfl)
              obtain ⟨q1, q2, q3⟩ := hM
              have q4 := q1.arr
              go_simp
              all_goals exact ⟨q1, q2, q3⟩
            | 9, ho, hD, hpre =>
              cases (show some _ = some o from ho)
              have e38 := ev_nfK (hV 7 38 rfl)
              obtain ⟨q1, q2, q3⟩ := hM
              have q4 := q1.arr
              go_simp
              all_goals exact ⟨q1, q2, q3⟩
            | n + 10, ho, hD, hpre => cases ho
          case he =>
            rintro w1 ⟨⟨L1, s1, s2, s3, s4⟩, q2, q3⟩
            simp only [putAll, dstOf, List.length_cons, List.length_nil, Nat.reduceAdd, List.getElem?_cons_zero, List.getElem?_cons_succ, Option.bind_some, List.getD_cons_zero, List.getD_cons_succ, Act.put, List.setIfInBounds_toArray, List.set_cons_zero, List.set_cons_succ]
            have he : rt L1 = rt L := funext s2
            have HWE1 := HWE.out
            rw [← he] at HWE1
            obtain ⟨n1, n2⟩ := WkE.next HE.out hlt s1.wk HWE1
            rw [s2, s2] at n1 n2
            have la := s1.wk.le (fN E k)
            have lb := s1.wk.le (tN E k)
            rw [s2] at la lb
            have hmx := HMX.out
            have hmn := HMN.out
            have hxN : max (rt L (fN E k)) (rt L (tN E k)) < N := by have := CRF.out; have := CRT.out; omega
            have hJ := hide (show JoinAt w b1 bo br g c1 N (some ⟨b9, off9, none⟩) c E (k + 1) (w1.setCell ⟨g, max (rt L (fN E k)) (rt L (tN E k)), none⟩ (.int .i64 ((min (rt L (fN E k)) (rt L (tN E k)) : Nat) : Int))) from
              ⟨⟨_, ((s4.set (.inl rfl) _).later HGW.out (fun k hk => by rw [hk]; exact hgB))⟩, rfl, _, s1.put n1, n2, q2.other (Ne.symm hgb) _⟩)
            have m9 := s1.row.mine (iv_cell (v := max (rt L (fN E k)) (rt L (tN E k))) (by rw [s1.wk.len]; exact hxN))
            have p1 := s1.o
            clear s1 s2 s3 s4 he HWE1 n1 n2 HWE la lb CR HMX HMN q2 q3 CRF CRT
            generalize rt L (fN E k) = ra at *
            generalize rt L (tN E k) = rb at *
            generalize max ra rb = mx at *
            generalize min ra rb = mn at *
            generalize gn L1 mx = zz at *
            go_wp2_with fail
            go_roundw
            case measure => simp [Go.RowKit.intOf]; omega
            case rel => exact ⟨k + 1, by omega, by go_num, hJ.out⟩
        · obtain rfl : k = E.length := by omega
          have HL := hide (show LastAt w bo br g c1 N (rt L) 0 y2.now from ⟨y2, rfl, L, hR, fun _ => rfl, fun j hj => by omega⟩)
          have HIS := hide (fun (u v : Nat) (hu : u < N) (hv : v < N) => hWE.is hu hv)
          have q1 := hR.o
          clear hR hWE hB hlt hk
          generalize rt L = R at *
          go_wp2_with fail
          go_loopw [50] (fun i wr => ∃ k : Nat, k ≤ N ∧ i = .int .i64 (k : Int) ∧ LastAt w bo br g c1 N R k wr) (fun i _ => N - (Go.RowKit.intOf i).toNat)
          case atStart => exact ⟨0, by omega, by go_num, HL.out⟩
          case round =>
            obtain ⟨v, hv, rfl, y3, rfl, L, hR, hrt, hall⟩ := hrel
            clear q1 HL
            by_cases hlt : v < N
            · have HRT := hide hR
              have HRR := hide hrt
              have HALL := hide hall
              have HV9 := hide hlt
              have hst : Hid (rt L v = rt L v) := hide rfl
              have q1 := hR.o
              have q2 := hR.r
              clear hR hrt hall
              go_upto_region 19 with fail
              have HH0 := hide (show RootAt bo br g c1 N L y3.now.drew from HRT.out.grow (Grows.refl _).drew)
              have IH := hide (fun (w1 : World) (hk : KeepR bo br g c1 N y3.now L w1) => show Calls Tryz.prog 125 #[.int .i64 (v : Int), .pointer (some ⟨bo, 0, none⟩), .pointer (some ⟨br, 0, none⟩)] w1 fun e w' => e = .returned (.int .i64 (rt L v : Int)) ∧ KeepR bo br g c1 N y3.now L w' from by
                obtain ⟨L1, r1, r2, r3, r4⟩ := hk
                refine (ptRoot bo br g c1 N v v L1 w1 (Nat.le_refl _) HV9.out r1).mono ?_
                rintro e w' ⟨rfl, hk⟩
                rw [r2]
                exact ⟨rfl, KeepR.trans r2 r3 r4 hk⟩)
              clear q1 q2
              refine wp_region_keep (by kernel_rfl) (by kernel_rfl) (by kernel_rfl) (by kernel_rfl) (by kernel_rfl) (fun j => ([.slice (some ⟨g, 0, none⟩) N c1, .int .i64 (v : Int), rootF bo br, .int .i64 (v : Int), .int .i64 (rt L v : Int), .pointer (some ⟨g, v, none⟩), undef] : List Value).getD j undef) (fun D w1 => MR bo br g c1 N v y3.now L (D 4) (D 6) w1) ⟨HH0.out, (Grows.refl _).drew⟩ ?hs2 ?he2
              case hs2 =>
                intro a hV hO i o ho D hcl hD hpre w1 hM
                match i, ho, hD, hpre with
                | 0, ho, hD, hpre =>
                  cases (show some _ = some o from ho)
                  have e2 := ev_nfK ((hO 2 (notDstK (by kernel_rfl))).trans rfl)
                  obtain ⟨q1, q2⟩ := MR.arrs hM
                  have hvn := HV9.out
                  go_simp
                  all_goals exact hM
                | 1, ho, hD, hpre =>
                  cases (show some _ = some o from ho)
                  have e9 := ev_nfK ((hO 9 (notDstK (by kernel_rfl))).trans rfl)
                  obtain ⟨q1, q2⟩ := MR.arrs hM
                  have hvn := HV9.out
                  go_simp
                  all_goals exact hM
                | 2, ho, hD, hpre =>
                  cases (show some _ = some o from ho)
                  have e4 := ev_nfK ((hO 4 (notDstK (by kernel_rfl))).trans rfl)
                  obtain ⟨q1, q2⟩ := MR.arrs hM
                  have hvn := HV9.out
                  go_simp
                  all_goals exact hM
                | 3, ho, hD, hpre =>
                  cases (show some _ = some o from ho)
                  have e9 := ev_nfK ((hO 9 (notDstK (by kernel_rfl))).trans rfl)
                  obtain ⟨q1, q2⟩ := MR.arrs hM
                  have hvn := HV9.out
                  go_simp
                  all_goals exact hM
                | 4, ho, hD, hpre =>
                  cases (show some _ = some o from ho)
                  have e55 := ev_nfK (hV 2 55 rfl)
                  have e56 := ev_nfK (hV 3 56 rfl)
                  have d9 : D 6 = false := by
                    cases hd : D 6 with
                    | false => rfl
                    | true => exact absurd (hcl 6 4 hd (by kernel_rfl)) (by rw [hD]; exact Bool.false_ne_true)
                  have hq := MR.keep hM hD
                  go_simp
                  refine (IH.out w1 hq).mono ?_
                  rintro e w' ⟨rfl, hk⟩
                  exact ⟨rfl, MR.called rfl hk⟩
                | 5, ho, hD, hpre =>
                  cases (show some _ = some o from ho)
                  have e53 := ev_nfK (hV 0 53 rfl)
                  have e54 := ev_nfK (hV 1 54 rfl)
                  obtain ⟨q1, q2⟩ := MR.arrs hM
                  have hvn := HV9.out
                  go_simp
                  all_goals exact hM
                | 6, ho, hD, hpre =>
                  cases (show some _ = some o from ho)
                  have e58 := ev_nfK (hV 5 58 rfl)
                  have e57 := ev_nfK (hV 4 57 rfl)
                  have d7 : D 4 = true := hpre 4 (by kernel_rfl)
                  obtain ⟨q1, q2, x9, m9⟩ := MR.mid hM d7 hD HV9.out
                  have hS := hide (MR.stored d7 hM hD HV9.out hst.out)
                  rw [d7] at hS
                  clear hM
                  go_simp
                  all_goals exact hS.out
                | n + 7, ho, hD, hpre => cases ho
              case he2 =>
                intro w1 hM
                simp only [putAll, dstOf, List.length_cons, List.length_nil, Nat.reduceAdd, List.getElem?_cons_zero, List.getElem?_cons_succ, Option.bind_some, List.getD_cons_zero, List.getD_cons_succ, Act.put, List.setIfInBounds_toArray, List.set_cons_zero, List.set_cons_succ]
                have hJ : LastAt w bo br g c1 N R (v + 1) w1 := by
                  obtain ⟨L2, t1, t2, t3, t4, t5⟩ := hM.last
                  have hHR := HRR.out
                  refine ⟨⟨w1, t4.later y3.grows (fun k hk => by rw [hk]; exact hgB)⟩, rfl, L2, t1, fun x => by rw [t2, hHR], fun j hj => ?_⟩
                  by_cases e : j = v
                  · rw [e, t5, hHR]
                  · rw [t3 j (by rw [HALL.out j (by omega), hHR]), hHR]
                have HJ3 := hide hJ
                clear hM hJ hst IH HH0 HRT HRR HALL
                go_wp2_with fail
                go_roundw
                case measure => simp [Go.RowKit.intOf]; omega
                case rel => exact ⟨v + 1, by omega, by go_num, HJ3.out⟩
            · obtain rfl : N = v := by omega
              have q1 := hR.o
              have HRT := hide hR
              have HALL := hide hall
              clear hR hrt hall
              go_wp2_with fail
              have hne : ¬ bo = g := fun e => HRT.out.ne.1 e.symm
              have hbw : w.heap.size ≤ bo := HBS.out.2.1
              refine bodyPost_ret (v := .slice (some ⟨g, 0, none⟩) N c1) (by simp (maxDischargeDepth := 6) [results, Tryz.results82, go_sem, *]) rfl ⟨g, c1, L, rfl, HRT.out.row.other (by show ¬ bo = g; exact hne) _, HRT.out.wk.len, fun u v hu hv => ?_, y3.grows.set hbw _⟩
              rw [HALL.out u hu, HALL.out v hv]
              exact HIS.out u v hu hv
end Go.Proofs.YtomednfddpggaaaGreat

/- Contract: the strong parts of a graph, by the program. -/
namespace Go.Proofs.YtomednfddpggaaaGreat
open Go Go.RowKit
attribute [local go_sem] Oper.semAt_some
set_option maxHeartbeats 1000000 in
theorem tjRowC (b1 N : Nat) (V : Value) (w : World) (h : Arr w b1 24 [.int .i64 (N : Int), V]) (hN : N ≤ 4096) : Calls Tryz.prog 123 #[.pointer (some ⟨b1, 0, none⟩)] w fun e w' =>
    e = .returned (.slice (some ⟨w.heap.size, 0, none⟩) N N) ∧ w' = w.alloc (.cells (List.replicate N (Value.int .i64 0)).toArray 3) := by
  have hm := fun (w : World) => run_makeInts N (by omega) w
  go_enter Tryz.func123, Tryz.ntmps123
  go_wp2_with fail
  go_ret
  exact ⟨rfl, by simp⟩
theorem run_makeBools (n : Nat) (hn : n ≤ 1000000000) (w : World) : (Instr.makeSlice 131 (.int .i64 (n : Int)) (.int .i64 (n : Int))).run Tryz.prog w = .ok (.slice (some ⟨w.heap.size, 0, none⟩) n n) (w.alloc (.cells (List.replicate n (Value.bool false)).toArray 4)) := by
  have h : (Tryz.prog.info? 4).map (fun i => (i.zero, i.size, i.bytes)) = some (some (.bool false), 1, 1) := by kernel_rfl
  obtain ⟨i, h1, h2, h3, h4⟩ := info_parts h
  have := run_make_row (P := Tryz.prog) 131 4 i (.bool false) Tryz.underlying131 h1 h2 h3 rfl .i64 .i64 n (by rw [h4]; omega) (by omega) w
  have e : madeCells #[Value.bool false] n = (List.replicate n (Value.bool false)).toArray := Array.ext' (by rw [toList_madeCells_one])
  rw [e] at this
  exact this
def StrAt (w : World) (ba N : Nat) (v6 : Value) (wx : World) : Prop :=
  ∃ b : TjB, v6 = .pointer (some ⟨b.bx, 0, none⟩) ∧ b.ba = ba ∧ b.N = N ∧ TjAt wx b none 0 (tjZero N) ∧ Grows w wx ∧ ∀ k, TjOwn b none k → w.heap.size ≤ k
theorem str_at {w W' : World} {ba N bx bm bl bp bu : Nat} (hbx : bx = W'.heap.size)
    (hm : Arr W' bm 3 (List.replicate N (.int .i64 0))) (hl : Arr W' bl 3 (List.replicate N (.int .i64 0))) (hp : Arr W' bp 3 (List.replicate N (.int .i64 0))) (hu : Arr W' bu 4 (List.replicate N (.bool false)))
    (hd : bm ≠ bl ∧ bm ≠ bp ∧ bl ≠ bp) (hg : Grows w W') (hb : w.heap.size ≤ bm ∧ w.heap.size ≤ bl ∧ w.heap.size ≤ bp ∧ w.heap.size ≤ bu) :
    StrAt w ba N (.pointer (some ⟨bx, 0, none⟩)) (W'.alloc (.cells #[.pointer (some ⟨ba, 0, none⟩), .slice (some ⟨bm, 0, none⟩) N N, .slice (some ⟨bl, 0, none⟩) N N, .slice (some ⟨bp, 0, none⟩) N N, .slice none 0 0, .int .i64 0, .slice (some ⟨bu, 0, none⟩) N N] 182)).drew := by
  subst hbx
  have hg1 : Grows W' (W'.alloc (.cells #[.pointer (some ⟨ba, 0, none⟩), .slice (some ⟨bm, 0, none⟩) N N, .slice (some ⟨bl, 0, none⟩) N N, .slice (some ⟨bp, 0, none⟩) N N, .slice none 0 0, .int .i64 0, .slice (some ⟨bu, 0, none⟩) N N] 182)) := (Grows.refl _).new _
  have hg2 := hg1.drew
  refine ⟨⟨W'.heap.size, ba, bm, bl, bp, bu, N⟩, rfl, rfl, rfl, ⟨(Arr.make _ _ _).grow (Grows.refl _).drew, ?_, ?_, ?_, ?_, Own.nil _ _ _ _, hd, fun p hp => by cases hp⟩, hg.trans hg2, ?_⟩
  · simpa [tjZero] using hm.grow hg2
  · simpa [tjZero] using hl.grow hg2
  · simpa [tjZero] using hp.grow hg2
  · simpa [tjZero] using hu.grow hg2
  · rintro k ((rfl | rfl | rfl | rfl | rfl) | ⟨p, hp, _⟩)
    · exact hg.size
    · exact hb.1
    · exact hb.2.1
    · exact hb.2.2.1
    · exact hb.2.2.2
    · cases hp
set_option maxRecDepth 20000 in
set_option maxHeartbeats 4000000 in
theorem tjStrong (N : Nat) (A : Option Addr) (c : Nat) (E : List Edg) (w : World) (h : Rd w A 3 E.length (esCells E)) (hr : rightF N E = 0) :
    Calls Tryz.prog 81 #[.agg #[.int .i64 (N : Int), .slice A E.length c]] w fun e w' => ∃ g, e = .returned (.slice (some ⟨g, 0, none⟩) N N) ∧ Rd w' (some ⟨g, 0, none⟩) 1 N ((strongL N E).map (.int .i64)) ∧ Grows w w' := by
  obtain ⟨r1, r2, r3, r4, r5⟩ := right_in hr
  rw [Int.toNat_natCast] at r4
  have C1 := hide (fun (W : World) (hg : Grows w W) => adjNew N A E.length c E W (h.grows hg) (by omega) hr)
  have mb := fun (w : World) => run_makeBools N (by omega) w
  clear h hr r5
  have HE := hide r4
  clear r4
  go_enter Tryz.func81, Tryz.ntmps81
  go_wp2_with (go_at_call 33; refine (C1.out _ GG).mono ?_; rintro e w' ⟨ba, rfl, ha, hg⟩; obtain ⟨x, rfl⟩ := hg.later; have HA := hide ha; clear ha hg)
  go_upto_region 5 with fail
  have hb1 : Arr x.now w.heap.size 24 [.int .i64 (N : Int), .slice A E.length c] := (Arr.make w _ _).grow x.grows
  have CR := hide (fun (W : World) (hg : Grows x.now W) => tjRowC w.heap.size N _ W (hb1.grow hg) (by omega))
  generalize hw0 : w.heap.size = b1 at *
  go_cut [6] (fun s6 wx => StrAt x.now ba N s6 wx)
  case first =>
    go_region_with (go_at_call 123; refine (CR.out _ GG).mono ?_; rintro e w' ⟨rfl, rfl⟩)
    all_goals go_wp2_with fail
    all_goals go_meet
    all_goals (case rel =>
      refine str_at (by simp) ?_ ?_ ?_ ?_ (by omega) GG (by omega)
      all_goals exact ⟨by simp [heap_drew, heap_push, Array.getElem_push, Array.getElem?_push, eq_add2] <;> omega⟩)
  case rest =>
    obtain ⟨b, rfl, rfl, hbN, hat, hgx, hlo⟩ := hcut
    subst hbN
    obtain ⟨y0, rfl⟩ := hgx.later
    have HAT := hide hat
    have HLO := hide hlo
    have HFL : Hid (∀ k, New (w.alloc (Obj.cells #[.int .i64 (b.N : Int), .slice A E.length c] 24)) x.now k → k < x.now.heap.size) := fun k hk => hk.2
    have HTO := hide (fun k (hk : k ≤ b.N) => tjAll_ok HE.out k hk)
    have HW := hide (fun (v : Nat) (A2 : Option Addr) (c2 : Nat) (s : TjS) (W : World) (hg : Grows x.now W) (h1 : TjAt W b A2 c2 s) (h2 : ∀ k, TjOwn b A2 k → x.now.heap.size ≤ k) (h3 : TjOk b.N s) (h4 : v < b.N) (h5 : gi s.met v = 0) =>
      tjWalkN _ b E HE.out (by omega) (by omega) b.N v A2 c2 s W h1 (HA.out.grows hg) (fun k hk => ⟨Nat.lt_of_lt_of_le (HFL.out k hk) hg.size, fun e => by have := h2 k e; have := HFL.out k hk; omega⟩) h3 h4 h5 (by have := List.count_le_length (a := (0 : Int)) (l := s.met); rw [h3.m] at this; exact this))
    clear hat hlo hgx CR C1 mb HA
    have hgw : Grows w x.now := GG
    generalize hw0 : w.heap.size = b0 at *
    clear hw0
    go_wp2_with fail
    go_loopw [30] (fun s30 wr => ∃ k : Nat, k ≤ b.N ∧ s30 = .int .i64 (k : Int) ∧ ∃ y : Later x.now, wr = y.now ∧ ∃ A2 c2, TjAt y.now b A2 c2 (tjAll E b.N k (tjZero b.N)) ∧ ∀ j, TjOwn b A2 j → x.now.heap.size ≤ j) (fun i _ => b.N - (Go.RowKit.intOf i).toNat)
    case atStart => exact ⟨0, by omega, by go_num, y0, rfl, none, 0, HAT.out, HLO.out⟩
    case round =>
      obtain ⟨k, hk, rfl, y, rfl, A2, c2, hat, hlo⟩ := hrel
      have H := hide hat
      have HL := hide hlo
      have HK := hide (HTO.out k hk)
      have HSU := hide (show tjAll E b.N (k + 1) (tjZero b.N) = if gi (tjAll E b.N k (tjZero b.N)).met k = 0 then tj (tjRow E) b.N k (tjAll E b.N k (tjZero b.N)) else tjAll E b.N k (tjZero b.N) from rfl)
      have hx := hat.x
      clear hat hlo HAT HLO
      by_cases hlt : k < b.N
      · have mk : Mine y.now ⟨b.bm, k, none⟩ (.int .i64 (gi (tjAll E b.N k (tjZero b.N)).met k)) := H.out.m.mine k (by simp [gi, show k < (tjAll E b.N k (tjZero b.N)).met.length by rw [HK.out.m]; exact hlt])
        by_cases h0 : gi (tjAll E b.N k (tjZero b.N)).met k = 0
        · have HST := hide (HSU.out.trans (if_pos h0))
          have CW := hide (HW.out k A2 c2 _ y.now y.grows H.out HL.out HK.out hlt h0)
          rw [h0] at mk
          clear h0 HSU
          generalize tjAll E b.N k (tjZero b.N) = s at *
          go_wp2_with (go_at_call 124; refine CW.out.mono ?_; rintro e w' ⟨rfl, A3, c3, hat3, ht3, ho3⟩; have HAT3 := hide hat3; have HT3 := hide ht3; have HO3 := hide ho3; clear hat3 ht3 ho3)
          go_roundw
          case measure => simp [Go.RowKit.intOf]; omega
          case rel => exact ⟨k + 1, by omega, by go_num, ⟨w', HT3.out.later y.grows HL.out⟩, rfl, A3, c3, by rw [HST.out]; exact HAT3.out, fun j hj => by
            rcases HO3.out j hj with h | h
            · exact HL.out j h
            · exact Nat.le_trans y.size h⟩
        · have HST := hide (HSU.out.trans (if_neg h0))
          have h1 : (gi (tjAll E b.N k (tjZero b.N)).met k == 0) = false := beq_eq_false_iff_ne.2 h0
          generalize tjAll E b.N k (tjZero b.N) = s at *
          generalize gi s.met k = m at *
          clear h0 HSU
          go_wp2_with fail
          go_roundw
          case measure => simp [Go.RowKit.intOf]; omega
          case rel => exact ⟨k + 1, by omega, by go_num, y, rfl, A2, c2, by rw [HST.out]; exact H.out, HL.out⟩
      · obtain rfl : k = b.N := by omega
        clear HSU
        have HP := hide (show strongL b.N E = (tjAll E b.N b.N (tjZero b.N)).part from rfl)
        generalize tjAll E b.N b.N (tjZero b.N) = s at *
        go_wp2_with fail
        go_ret
        refine ⟨b.bp, rfl, ?_, hgw.trans y.grows⟩
        rw [HP.out]
        exact H.out.p.rd (by simp [HK.out.p])
set_option maxRecDepth 20000 in
set_option maxHeartbeats 4000000 in
theorem tjStrongNo (N : Int) (A : Option Addr) (n c : Nat) (E : List Edg) (w : World) (h : Rd w A 3 n (esCells E)) (hn : n ≤ 1000000) (hr : rightF N E ≠ 0) :
    Calls Tryz.prog 81 #[.agg #[.int .i64 N, .slice A n c]] w fun e w' => e = .returned (.slice none 0 0) ∧ Grows w w' := by
  have C1 := hide (fun (W : World) (hg : Grows w W) => adjNewNo N A n c E W (h.grows hg) hn hr)
  clear h hr
  go_enter Tryz.func81, Tryz.ntmps81
  go_wp2_with (go_at_call 33; refine (C1.out _ GG).mono ?_; rintro e w' ⟨rfl, hg⟩; obtain ⟨x, rfl⟩ := hg.later; clear hg)
  go_ret
  exact ⟨rfl, GG⟩
end Go.Proofs.YtomednfddpggaaaGreat

/- The values of a row of numbers, handed over one by one (slices.Values); collected (slices.AppendSeq, slices.Collect). -/
namespace Go.Proofs.YtomednfddpggaaaGreat
open Go Go.RowKit
attribute [local go_sem] Oper.semAt_some
theorem valuesI (A : Option Addr) (n c : Nat) (w : World) : Calls Tryz.prog 121 #[.slice A n c] w fun e w' =>
    e = .returned (.func (.func 150) #[] #[.pointer (some ⟨w.heap.size, 0, none⟩)]) ∧ w' = w.alloc (.cells #[.slice A n c] 36) := by
  go_enter Tryz.func121, Tryz.ntmps121
  go_wp2
  go_ret
  exact ⟨rfl, rfl⟩
theorem Rd.touchV {w w' : World} {S : Nat → Prop} {A : Option Addr} {size n : Nat} {xs : List Value} (h : Rd w A size n xs) (ht : Touch S w w') (hp : 0 < n → ∀ p, A = some p → ¬ S p.block) : Rd w' A size n xs :=
  ⟨h.1, fun h1 h2 => by
    obtain ⟨g, off, e, hc⟩ := h.2 h1 h2
    exact ⟨g, off, e, fun j u hu => ht.cell (p := ⟨g, off + j, none⟩) (hp h1 ⟨g, off, none⟩ e) (hc j u hu)⟩⟩
def encI (x : Int) : Array Value := #[.int .i64 x]
set_option maxRecDepth 20000 in
set_option maxHeartbeats 2000000 in
theorem valI_gives (B M0 : Nat → Prop) (bm : Nat) (A : Option Addr) (c : Nat) (l : List Int) (w : World) (hl : l.length ≤ 1000000) (h : Rd w A 1 l.length (l.map (.int .i64))) (hA : 0 < l.length → ∀ p, A = some p → B p.block ∨ M0 p.block)
    (hb : Arr w bm 36 [.slice A l.length c]) (m1 : B bm ∨ M0 bm) (hm : ∀ k, M0 k → k < w.heap.size) :
    Gives Tryz.prog 150 #[.pointer (some ⟨bm, 0, none⟩)] encI B M0 l w := by
  intro ln J Jx W hkW hJ hJx hY h0
  have HJ := hide hJ
  have HY := hide hY
  have H0 := hide h0
  have hA2 : 0 < l.length → ∀ p, A = some p → ¬ ¬ (B p.block ∨ M0 p.block) := fun hn p hp h1 => h1 (hA hn p hp)
  have HA := hide hA2
  have HR := hide (h.touchV hkW hA2)
  have i1 : Arr W bm 36 [.slice A l.length c] := ⟨hkW.at m1 hb.is⟩
  have hmW : ∀ k, M0 k → k < W.heap.size := fun k hk => Nat.lt_of_lt_of_le (hm k hk) hkW.size
  have HM := hide hmW
  clear hJ hY h0 hkW h hA hA2 hb hm hmW m1
  refine callsIn_of_wp Tryz.func150 rfl trivial ?_ rfl
  simp only [Tryz.ntmps150, List.size_toArray, List.length_cons, List.length_nil, Nat.reduceAdd, Nat.reduceSub, Array.replicate_succ, Array.replicate_zero, List.push_toArray, List.append_toArray, List.nil_append, List.cons_append]
  gi_wp2_with fail
  gi_loopw [7] (fun s wr => ∃ k : Nat, k ≤ l.length ∧ s = .int .i64 (k : Int) ∧ Keeps B M0 W wr ∧ J (l.take k) M0 wr) (fun s _ => l.length - (Go.RowKit.intOf s).toNat)
  case atStart => exact ⟨0, by omega, by go_num, Keeps.refl _ _ _, H0.out⟩
  case round =>
    obtain ⟨k, hk, rfl, hkp, hj⟩ := hrel
    have HJ1 := hide hj
    have HKP := hide hkp
    have HRr := hide (HR.out.touchV hkp HA.out)
    clear hj hkp H0
    by_cases hlt : k < l.length
    · obtain ⟨g, off, rfl, hc⟩ := HRr.out.intsH (by omega)
      have c1 := hc k hlt
      have hsp : l = l.take k ++ gi l k :: l.drop (k + 1) := by
        have : gi l k = l[k] := by simp [gi, hlt]
        rw [this, List.getElem_cons_drop, List.take_append_drop]
      obtain ⟨fn, tmps, assign, body, hy, hR⟩ := HY.out _ _ _ _ _ hsp HJ1.out
      unfold encI at hy
      have HRR := hide hR
      have HSP := hide hsp
      have HSN := hide (show l.take (k + 1) = l.take k ++ [gi l k] from by
        rw [List.take_succ_eq_append_getElem hlt]
        simp [gi, hlt])
      clear hc hR hsp
      gi_wp2
      refine HRR.out.mono ?_
      rintro e W3 (⟨rfl, hJ3, hk3⟩ | ⟨rfl, hJx3, _⟩)
      · have HJ3 := hide hJ3
        have HK3 := hide hk3
        clear hJ3 hk3
        gi_wp2
        go_roundw
        case rel => exact ⟨k + 1, by omega, by go_num, HKP.out.trans HK3.out, by rw [HSN.out]; exact HJ3.out⟩
        case measure => simp [Go.RowKit.intOf]; omega
      · have HJX := hide hJx3
        clear hJx3
        gi_wp2
        refine bodyPost_ret (results_none rfl _ _ _) rfl ?_
        exact ⟨⟨_, rfl⟩, .inr ⟨l.take k, gi l k, l.drop (k + 1), _, HSP.out, HJX.out⟩⟩
    · have hke : l.take k = l := List.take_of_length_le (by omega)
      have HJ2 := HJ1.out
      rw [hke] at HJ2
      have HJE := hide HJ2
      clear HJ2 hke
      gi_wp2
      go_end0
      exact ⟨⟨_, rfl⟩, .inl ⟨_, HJE.out⟩⟩
end Go.Proofs.YtomednfddpggaaaGreat

/-
  DERIVED: THE SHELF's CONTRACTS AT THIS DUMP, IN PLAIN WORDS (tools/lay-plain.mjs out of 'TryIter.lean', which tools/lay-shelf.mjs wrote): THE SAME DECLARATIONS UNDER THE SAME NAMES: 'import', 'namespace', 'open', 'def', 'theorem' AND NOTHING ELSE: no command of the shelf's: FOR A HAND-IN. Each laying: the table of numbers ('.._ren') and one theorem, a field a fact of the dump's own or the kernel's comparison; each contract: ONE APPLICATION.
-/
namespace Go.Proofs
open Go.Shelf
def Tryz.sortedA_ren : Go.Shelf.Ren := ⟨fun | 6 => 120 | 8 => 149 | 9 => 44 | 11 => 160 | 13 => 79 | 12 => 78 | 23 => 118 | 24 => 119 | 14 => 109 | 15 => 110 | 16 => 111 | 17 => 112 | 18 => 113 | 19 => 114 | 20 => 115 | 21 => 116 | 22 => 117 | 25 => 143 | 26 => 144 | 27 => 145 | 28 => 146 | 29 => 147 | 30 => 148 | 31 => 159 | n => n, fun | 26 => 3 | 28 => 178 | 24 => 36 | 0 => 0 | 3 => 3 | 37 => 126 | 48 => 174 | 50 => 38 | 4 => 4 | 40 => 167 | 39 => 166 | 45 => 90 | 5 => 5 | 9 => 9 | 51 => 206 | 55 => 209 | 57 => 218 | 58 => 120 | 33 => 37 | n => n, fun | n => n⟩
theorem Tryz.sortedA : Go.Proofs.SlLaysZI.n6 Tryz.prog Tryz.sortedA_ren := {
  mixed := by kernel_rfl
  f6 := ⟨Tryz.f120.name, by decide, Tryz.func120.trans (congrArg some (by kernel_rfl))⟩
  f8 := ⟨Tryz.f149.name, by decide, Tryz.func149.trans (congrArg some (by kernel_rfl))⟩
  f11 := ⟨Tryz.f160.name, by decide, Tryz.func160.trans (congrArg some (by kernel_rfl))⟩
  t0 := Tryz.underlying0
  a0 := Tryz.isAgg0
  z0 := Tryz.sizeOf0
  v0 := Tryz.zeroValue0
  t24 := Tryz.underlying36
  a24 := Tryz.isAgg36
  z24 := Tryz.sizeOf36
  v24 := Tryz.zeroValue36
  t26 := Tryz.underlying3
  a26 := Tryz.isAgg3
  z26 := Tryz.sizeOf3
  v26 := Tryz.zeroValue3
  t28 := Tryz.underlying178
  a28 := Tryz.isAgg178
  z28 := Tryz.sizeOf178
  v28 := Tryz.zeroValue178
  i26 := by kernel_rfl }
def Tryz.sortA_ren : Go.Shelf.Ren := ⟨fun | 5 => 44 | 8 => 79 | 7 => 78 | 19 => 118 | 20 => 119 | 10 => 109 | 11 => 110 | 12 => 111 | 13 => 112 | 14 => 113 | 15 => 114 | 16 => 115 | 17 => 116 | 18 => 117 | 30 => 143 | 31 => 144 | 32 => 145 | 33 => 146 | 34 => 147 | 35 => 148 | 40 => 159 | n => n, fun | 23 => 36 | 25 => 3 | 3 => 3 | 32 => 126 | 22 => 36 | 0 => 0 | 44 => 174 | 46 => 38 | 4 => 4 | 36 => 167 | 35 => 166 | 41 => 90 | 5 => 5 | 9 => 9 | 53 => 206 | 57 => 209 | 63 => 218 | 64 => 120 | n => n, fun | n => n⟩
theorem Tryz.sortA : Go.Proofs.SlLaysM.n5 Tryz.prog Tryz.sortA_ren := {
  mixed := by kernel_rfl
  f5 := ⟨Tryz.f44.name, by decide, Tryz.func44.trans (congrArg some (by kernel_rfl))⟩
  f7 := ⟨Tryz.f78.name, by decide, Tryz.func78.trans (congrArg some (by kernel_rfl))⟩
  f8 := Tryz.func79.trans (congrArg some (by kernel_rfl))
  f10 := ⟨Tryz.f109.name, by decide, Tryz.func109.trans (congrArg some (by kernel_rfl))⟩
  f11 := ⟨Tryz.f110.name, by decide, Tryz.func110.trans (congrArg some (by kernel_rfl))⟩
  f12 := ⟨Tryz.f111.name, by decide, Tryz.func111.trans (congrArg some (by kernel_rfl))⟩
  f13 := ⟨Tryz.f112.name, by decide, Tryz.func112.trans (congrArg some (by kernel_rfl))⟩
  f14 := ⟨Tryz.f113.name, by decide, Tryz.func113.trans (congrArg some (by kernel_rfl))⟩
  f15 := ⟨Tryz.f114.name, by decide, Tryz.func114.trans (congrArg some (by kernel_rfl))⟩
  f16 := ⟨Tryz.f115.name, by decide, Tryz.func115.trans (congrArg some (by kernel_rfl))⟩
  f17 := ⟨Tryz.f116.name, by decide, Tryz.func116.trans (congrArg some (by kernel_rfl))⟩
  f18 := ⟨Tryz.f117.name, by decide, Tryz.func117.trans (congrArg some (by kernel_rfl))⟩
  f19 := Tryz.func118.trans (congrArg some (by kernel_rfl))
  f20 := Tryz.func119.trans (congrArg some (by kernel_rfl))
  f30 := ⟨Tryz.f143.name, by decide, Tryz.func143.trans (congrArg some (by kernel_rfl))⟩
  f31 := Tryz.func144.trans (congrArg some (by kernel_rfl))
  f32 := Tryz.func145.trans (congrArg some (by kernel_rfl))
  f33 := ⟨Tryz.f146.name, by decide, Tryz.func146.trans (congrArg some (by kernel_rfl))⟩
  f34 := ⟨Tryz.f147.name, by decide, Tryz.func147.trans (congrArg some (by kernel_rfl))⟩
  f35 := ⟨Tryz.f148.name, by decide, Tryz.func148.trans (congrArg some (by kernel_rfl))⟩
  f40 := ⟨Tryz.f159.name, by decide, Tryz.func159.trans (congrArg some (by kernel_rfl))⟩
  t0 := Tryz.underlying0
  a0 := Tryz.isAgg0
  z0 := Tryz.sizeOf0
  v0 := Tryz.zeroValue0
  t3 := Tryz.underlying3
  a3 := Tryz.isAgg3
  z3 := Tryz.sizeOf3
  v3 := Tryz.zeroValue3
  t4 := Tryz.underlying4
  a4 := Tryz.isAgg4
  z4 := Tryz.sizeOf4
  v4 := Tryz.zeroValue4
  t5 := Tryz.underlying5
  a5 := Tryz.isAgg5
  z5 := Tryz.sizeOf5
  v5 := Tryz.zeroValue5
  t9 := Tryz.underlying9
  a9 := Tryz.isAgg9
  z9 := Tryz.sizeOf9
  v9 := Tryz.zeroValue9
  t22 := Tryz.underlying36
  a22 := Tryz.isAgg36
  z22 := Tryz.sizeOf36
  v22 := Tryz.zeroValue36
  t23 := Tryz.underlying36
  a23 := Tryz.isAgg36
  z23 := Tryz.sizeOf36
  v23 := Tryz.zeroValue36
  t25 := Tryz.underlying3
  a25 := Tryz.isAgg3
  z25 := Tryz.sizeOf3
  v25 := Tryz.zeroValue3
  t32 := Tryz.underlying126
  a32 := Tryz.isAgg126
  z32 := Tryz.sizeOf126
  v32 := Tryz.zeroValue126
  t35 := Tryz.underlying166
  a35 := Tryz.isAgg166
  z35 := Tryz.sizeOf166
  v35 := Tryz.zeroValue166
  t36 := Tryz.underlying167
  a36 := Tryz.isAgg167
  z36 := Tryz.sizeOf167
  v36 := Tryz.zeroValue167
  t41 := Tryz.underlying90
  a41 := Tryz.isAgg90
  z41 := Tryz.sizeOf90
  v41 := Tryz.zeroValue90
  t44 := Tryz.underlying174
  a44 := Tryz.isAgg174
  z44 := Tryz.sizeOf174
  v44 := Tryz.zeroValue174
  t46 := Tryz.underlying38
  a46 := Tryz.isAgg38
  z46 := Tryz.sizeOf38
  v46 := Tryz.zeroValue38
  t53 := Tryz.underlying206
  a53 := Tryz.isAgg206
  z53 := Tryz.sizeOf206
  v53 := Tryz.zeroValue206
  t57 := Tryz.underlying209
  a57 := Tryz.isAgg209
  z57 := Tryz.sizeOf209
  v57 := Tryz.zeroValue209
  t63 := Tryz.underlying218
  a63 := Tryz.isAgg218
  z63 := Tryz.sizeOf218
  v63 := Tryz.zeroValue218
  t64 := Tryz.underlying120
  a64 := Tryz.isAgg120
  z64 := Tryz.sizeOf120
  v64 := Tryz.zeroValue120 }
def Tryz.lays20_ren : Go.Shelf.Ren := ⟨fun | 20 => 122 | n => n, fun | 22 => 36 | 3 => 3 | 4 => 4 | 0 => 0 | n => n, fun | n => n⟩
theorem Tryz.lays20 : Go.Proofs.Lays2.n20 Tryz.prog Tryz.lays20_ren := {
  mixed := by kernel_rfl
  f20 := Tryz.func122.trans (congrArg some (by kernel_rfl))
  t0 := Tryz.underlying0
  a0 := Tryz.isAgg0
  z0 := Tryz.sizeOf0
  v0 := Tryz.zeroValue0
  t3 := Tryz.underlying3
  a3 := Tryz.isAgg3
  z3 := Tryz.sizeOf3
  v3 := Tryz.zeroValue3
  t4 := Tryz.underlying4
  a4 := Tryz.isAgg4
  z4 := Tryz.sizeOf4
  v4 := Tryz.zeroValue4
  t22 := Tryz.underlying36
  a22 := Tryz.isAgg36
  z22 := Tryz.sizeOf36
  v22 := Tryz.zeroValue36
  i3 := by kernel_rfl }
end Go.Proofs
