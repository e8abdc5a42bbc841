/- Contract: any graph with any changes, by the answer. -/
import Derived.Test.YtgplpgldhoelcaaQChangeAgain25
import Derived.Test.YtgplpgldhoelcaaQChangeAgain26
import Derived.Test.YtgplpgldhoelcaaQChangeAgain06
import Derived.Test.YtgplpgldhoelcaaQChangeAgain01
import Derived.Test.YtgplpgldhoelcaaQChangeAgain07
import Derived.Test.YtgplpgldhoelcaaQChangeAgain24
namespace Go.Proofs.Ytgplpgldhoelcaa
open Go Go.RowKit
theorem Mine.other {w : World} {p q : Addr} {v : Value} (h : Mine w p v) (u : Value) (hne : q ≠ p) : Mine (w.setCell q u) p v := h.set_other u hne
theorem fin1 {f N4 N : Int} {n4 n c4 Y B : Nat} {A4 : Option Addr} {W : World} {xs : List Value} (hP : f = 0 → N4 = N ∧ n4 = n ∧ Own W B 93 3 A4 n4 c4 xs) (hB : Y ≤ B) :
    f = 0 → N4 = N ∧ n4 = n ∧ Rd W A4 3 n4 xs ∧ ∀ b off, A4 = some ⟨b, off, none⟩ → 0 < n4 → Y ≤ b := fun h => by
  obtain ⟨h1, h2, ho⟩ := hP h
  refine ⟨h1, h2, ho.rd, fun b off e h0 => ?_⟩
  obtain ⟨g, e', hg, _⟩ := ho.atS h0
  rw [e] at e'
  injection e' with e'
  injection e' with e1 _
  omega
theorem fin2 {f N4 N : Int} {n4 n c4 B : Nat} {A4 : Option Addr} {W : World} {xs : List Value} (hP : f = 0 → N4 = N ∧ n4 = n ∧ Own W B 93 3 A4 n4 c4 xs) {p q : Addr} (hp : p.block < B) (hq : q.block < B) (u v : Value) :
    f = 0 → N4 = N ∧ n4 = n ∧ Own ((W.setCell p u).setCell q v) B 93 3 A4 n4 c4 xs := fun h => by
  obtain ⟨h1, h2, ho⟩ := hP h
  exact ⟨h1, h2, (ho.low hp _).low hq _⟩
theorem fin3 {f N4 N : Int} {n4 n c4 Y B : Nat} {A4 : Option Addr} {W : World} {xs : List Value} {o : Obj} (hP : f = 0 → N4 = N ∧ n4 = n ∧ Own W B 93 3 A4 n4 c4 xs) (hB : Y ≤ B) :
    Hid (f = 0 → N4 = N ∧ n4 = n ∧ Rd (W.alloc o) A4 3 n4 xs ∧ ∀ b off, A4 = some ⟨b, off, none⟩ → 0 < n4 → Y ≤ b) := fun h => by
  obtain ⟨h1, h2, h3, h4⟩ := fin1 hP hB h
  exact ⟨h1, h2, h3.new _, h4⟩
theorem fin4 {f N4 N : Int} {n4 n c4 Y B : Nat} {A4 : Option Addr} {W : World} {xs : List Value} (hP : f = 0 → N4 = N ∧ n4 = n ∧ Own W B 93 3 A4 n4 c4 xs) (hB : Y ≤ B) {p q : Addr} (hp : p.block < B) (hq : q.block < B) (u v : Value) :
    Hid (f = 0 → N4 = N ∧ n4 = n ∧ Rd ((W.setCell p u).setCell q v) A4 3 n4 xs ∧ ∀ b off, A4 = some ⟨b, off, none⟩ → 0 < n4 → Y ≤ b) := fin1 (fin2 hP hp hq u v) hB
set_option maxRecDepth 20000 in
set_option maxHeartbeats 4000000 in
theorem r33Apply (N : Int) (A : Option Addr) (n c : Nat) (E : List Edg) (B : Option Addr) (m d : Nat) (L : List Chg) (w : World) (h : Rd w A 3 n (esCells E)) (hn : n ≤ 1000000) (hc : Rd w B 2 m (csCells L)) (hm : m ≤ 1000000) :
    Calls Try.prog 17 #[.agg #[.int .i64 N, .slice A n c], .slice B m d] w (GiveA w (apN N E L) (apL N E L) (apI N E L) (apF N E L)) := by
  have hl := h.elen
  have hlm := hc.clen
  have C1 := fun W (g : Grows w W) => r5Right N A n c E W (h.grows g) hn
  by_cases hr : rightF N E = 0
  · rw [hr] at C1
    have H1 := hide C1
    have HAP := hide (fun k (hj : ∀ j, j < k → chB n (gc L j) = true) => right_ap hr k (by rw [hl]; exact hj))
    have HBad := hide (fun k (hk : k < m) (hj : ∀ j, j < k → chB n (gc L j) = true) (h : chB n (gc L k) = false) => ap_bad (N := N) hr (L := L) (k := k) (by omega) (by rw [hl]; exact hj) (by rw [hl]; exact h))
    have HAll := hide (fun (hj : ∀ j, j < m → chB n (gc L j) = true) => ap_all (N := N) hr (L := L) (by rw [hl, hlm]; exact hj))
    have HC2 := hide hc
    have HLe := hide (fun k => (apE_len E L k).trans hl)
    have HLm := hide hlm
    have HL := hide hl
    have hne0 : ∀ b off, A = some ⟨b, off, none⟩ → 0 < n → b < w.heap.size := fun b off e h0 => by
      obtain ⟨b', off', e', hcc⟩ := h.2 h0 (by omega)
      have h3 : (esCells E)[0]? = some (.int .i64 (ge E 0).f) := by have := esCells_at E 0 0 (by omega) (by omega); rw [Nat.zero_mul] at this; exact this
      have := hcc 0 _ h3
      rw [e] at e'
      injection e' with e'
      injection e' with e1 e2
      subst e1
      exact cell_lt (p := ⟨b, off' + 0, none⟩) (by rw [this]; rfl)
    have HNE := hide hne0
    have HR0 := hide h
    clear C1 hr h hc hl hlm hne0
    go_enter Try.func17, Try.ntmps17
    go_wp2_with (first
      | (go_at_call 44; refine (H1.out _ GG).mono ?_; rintro e w' ⟨rfl, hg⟩; obtain ⟨x1, rfl⟩ := hg.later; clear hg))
    go_loopw [7] (fun i wr => ∃ k : Nat, k ≤ m ∧ i = .int .i64 (k : Int) ∧ ∃ y : Later w, wr = y.now ∧ w.heap.size + 2 ≤ y.now.heap.size ∧ ∃ A1 c1, Mine y.now ⟨w.heap.size, 0, none⟩ (.int .i64 N) ∧ Mine y.now ⟨w.heap.size, 1, none⟩ (.slice A1 n c1) ∧ Mine y.now ⟨w.heap.size + 1, 0, none⟩ (.int .i64 0) ∧ Mine y.now ⟨w.heap.size + 1, 1, none⟩ (.slice none 0 0) ∧
      Hid (Rd y.now A1 3 n (esCells (apE E L k))) ∧ Hid (∀ b off, A1 = some ⟨b, off, none⟩ → 0 < n → b ≠ w.heap.size ∧ b ≠ w.heap.size + 1) ∧ Hid (∀ j, j < k → chB n (gc L j) = true)) (fun i _ => m - (Go.RowKit.intOf i).toNat)
    case atStart =>
      refine ⟨0, by omega, by go_num, ⟨x1.now, GG⟩, rfl, by have := x1.size; simp only [World.size_alloc] at this; omega, A, c, (inferInstance : Mine x1.now _ _), (inferInstance : Mine x1.now _ _), (inferInstance : Mine x1.now _ _), (inferInstance : Mine x1.now _ _), HR0.out.grows GG, fun b off e h0 => by have := HNE.out b off e h0; omega, fun j h => by omega⟩
    case round =>
      obtain ⟨k, hk, rfl, y, rfl, hsz, A1, c1, b0, b1, r0, r1, HR, HN1, HJ⟩ := hrel
      by_cases hend : m ≤ k
      · have hkm : k = m := by omega
        subst hkm
        have HV := hide (HAll.out HJ.out)
        go_wp2
        refine bodyPost_ret (v := .tuple #[.agg #[.int .i64 N, .slice A1 n c1], .int .i64 0, .int .i64 0]) (by simp (maxDischargeDepth := 6) [results, Try.results17, go_sem, *]) rfl ?_
        obtain ⟨v1, v2, v3, v4⟩ := HV.out
        rw [v1, v2, v3, v4, HLm.out]
        refine ⟨A1, c1, by rw [HLe.out], ?_, GG⟩
        rw [HLe.out]
        rcases Nat.eq_zero_or_pos n with h0 | h0
        · subst h0
          exact ⟨HR.out.1, fun h => absurd h (by omega)⟩
        · exact (HR.out.other _ (fun b off e => by have := (HN1.out b off e h0).2; show w.heap.size + 1 ≠ b; omega)).other _ (fun b off e => by have := (HN1.out b off e h0).2; show w.heap.size + 1 ≠ b; omega)
      · obtain ⟨b, off, rfl, hcc⟩ := HC2.out.chgsH (by omega)
        obtain ⟨c2, c3⟩ := hcc k (by omega)
        clear hcc
        have D1 := fun (W : World) (g : Grows y.now W) => r5With N A1 n c1 (apE E L k) (gc L k).e (gc L k).w W (HR.out.grows g) hn
        have hwf : withF N (apE E L k) (gc L k).e (gc L k).w = chF n (gc L k).e (gc L k).w := by unfold withF; rw [if_pos (HAP.out k HJ.out), HLe.out k]
        rw [hwf] at D1
        have hlk := HLe.out k
        have HBk := hide (fun (h : chB n (gc L k) = false) => HBad.out k (by omega) HJ.out h)
        have HFv : Hid (chF E.length (gc L k).e (gc L k).w = chF n (gc L k).e (gc L k).w) := by rw [HL.out]; rfl
        have HCB : Hid (chB n (gc L k) = true ↔ chF n (gc L k).e (gc L k).w = 0) := chB_at
        have HCS := hide (fun (h : chB n (gc L k) = true) => chB_spec h)
        have HN := hide (apE_succ E L k)
        rw [hlk] at D1
        have K1 := hide D1
        clear D1 hwf hlk
        generalize apE E L k = Ek at *
        generalize chF n (gc L k).e (gc L k).w = f at *
        generalize (gc L k).e = e at *
        generalize (gc L k).w = x at *
        go_upto_region 6 with fail
        go_cut [8, 9] (fun s8 s9 wx => s9 = .int .i64 f ∧ ∃ z : Later y.now, wx = z.now ∧ ∃ g8 N4 A4 n4 c4, s8 = .pointer (some ⟨g8, 0, none⟩) ∧ Mine z.now ⟨g8, 0, none⟩ (.int .i64 N4) ∧ Mine z.now ⟨g8, 1, none⟩ (.slice A4 n4 c4) ∧ Hid (f = 0 → N4 = N ∧ n4 = n ∧ Rd z.now A4 3 n4 (esCells (setW Ek e.toNat x)) ∧ ∀ b off, A4 = some ⟨b, off, none⟩ → 0 < n4 → y.now.heap.size ≤ b))
        case first =>
          clear HAP HBad HAll HLe HLm HL HNE HR0 HN1 HBk HFv HCB HCS HN HJ HR HC2 H1
          go_region_with (go_at_call 45; refine (K1.out _ GG).mono ?_; rintro e w' ⟨N4, A4, n4, c4, rfl, hP, hg⟩; obtain ⟨x4, rfl⟩ := hg.later; have HPP := hide hP; clear hg hP)
          all_goals go_wp2_with fail
          all_goals go_meet
          all_goals (case rel =>
            first
              | (refine ⟨rfl, ⟨x4.now.alloc _, ?gg⟩, (by with_reducible rfl), _, N4, A4, n4, c4, rfl, Mine.new0 _ _ _ _, Mine.new1 _ _ _ _ _, ?mf⟩
                 case gg => exact GG
                 case mf => exact fin3 HPP.out (by first | exact Nat.le_refl _ | (simp; done) | (simp; omega)))
              | (refine ⟨rfl, ⟨(x4.now.setCell _ _).setCell _ _, ?gg⟩, (by with_reducible rfl), _, N4, A4, n4, c4, rfl, ⟨by simp [go_sem], by simp [go_sem]⟩, ⟨by simp [go_sem], by simp [go_sem]⟩, ?mf⟩
                 case gg => exact GG
                 case mf => exact fin4 HPP.out (by first | exact Nat.le_refl _ | (simp; done) | (simp; omega)) (by first | (simp; done) | (simp; omega)) (by first | (simp; done) | (simp; omega)) _ _))
        case rest =>
          obtain ⟨rfl, z, rfl, g8, N4, A4, n4, c4, rfl, m0, m1, HF⟩ := hcut
          cases hb : chB n (gc L k) with
          | false =>
            have HV := hide (HBk.out hb)
            have hf : (f == 0) = false := beq_eq_false_iff_ne.2 (fun e => by rw [HCB.out.2 e] at hb; cases hb)
            clear hb
            go_wp2
            refine bodyPost_ret (v := .tuple #[.agg #[.int .i64 0, .slice none 0 0], .int .i64 (k : Int), .int .i64 f]) (by simp (maxDischargeDepth := 6) [results, Try.results17, go_sem, *]) rfl ?_
            obtain ⟨v1, v2, v3, v4⟩ := HV.out
            rw [v1, v2, v3, v4, HFv.out]
            exact ⟨none, 0, rfl, Rd.none0 _ _, GG⟩
          | true =>
            have HJ2 : Hid (∀ j, j < k + 1 → chB n (gc L j) = true) := fun j hj => by
              by_cases e : j = k
              · rw [e]; exact hb
              · exact HJ.out j (by omega)
            have hf : f = 0 := HCB.out.1 hb
            obtain ⟨e1, e2, _, _⟩ := HCS.out hb
            subst hf
            obtain ⟨rfl, rfl, hr4, hb4⟩ := HF.out rfl
            have HR4 := hide hr4
            have HB4 := hide hb4
            clear hb hr4 hb4 HF
            go_wp2
            refine ⟨⟨k + 1, by omega, by go_num, ⟨(z.now.setCell _ _).setCell _ _, GG⟩, rfl, ?_, A4, c4, ⟨by simp [go_sem], by simp [go_sem]⟩, ⟨by simp [go_sem], by simp [go_sem]⟩, ((inferInstance : Mine z.now _ _).other _ (by simp)).other _ (by simp), ((inferInstance : Mine z.now _ _).other _ (by simp)).other _ (by simp), ?_, fun b off e h0 => by have := HB4.out b off e h0; omega, HJ2⟩, by simp [Go.RowKit.intOf]; omega⟩
            · have := z.size
              simp only [World.size_setCell]
              omega
            · show Rd _ _ _ _ _
              rw [HN.out]
              rcases Nat.eq_zero_or_pos n4 with h0 | h0
              · subst h0
                exact ⟨HR4.out.1, fun h => absurd h (by omega)⟩
              · exact (HR4.out.other _ (fun b off e => by have := HB4.out b off e h0; show w.heap.size ≠ b; omega)).other _ (fun b off e => by have := HB4.out b off e h0; show w.heap.size ≠ b; omega)
  · have HV := hide (ap_not (L := L) hr)
    have hr2 : (rightF N E == 0) = false := beq_eq_false_iff_ne.2 hr
    have H1 := hide C1
    clear C1 hr h hc
    go_enter Try.func17, Try.ntmps17
    go_wp2_with (first | (go_at_call 44; refine (H1.out _ GG).mono ?_; rintro e w' ⟨rfl, hg⟩; (first | obtain ⟨x, rfl⟩ := Grows.later2 hg | obtain ⟨x, rfl⟩ := Grows.later hg); clear hg))
    refine bodyPost_ret (v := .tuple #[.agg #[.int .i64 0, .slice none 0 0], .int .i64 0, .int .i64 1]) (by simp (maxDischargeDepth := 6) [results, Try.results17, go_sem, *]) rfl ?_
    obtain ⟨v1, v2, v3, v4⟩ := HV.out
    rw [v1, v2, v3, v4]
    exact ⟨none, 0, rfl, Rd.none0 _ _, GG⟩
end Go.Proofs.Ytgplpgldhoelcaa

namespace Go.Proofs.Ytgplpgldhoelcaa
open Go Go.RowKit
theorem alive33v : apF 2 [⟨0, 1, 3⟩] [⟨0, 7⟩] = 0 ∧ apL 2 [⟨0, 1, 3⟩] [⟨0, 7⟩] = [⟨0, 1, 7⟩] := by
  constructor <;> decide +kernel
set_option maxRecDepth 20000 in
set_option maxHeartbeats 4000000 in
theorem alive33 (w : World) : Calls Try.prog 11 #[] w fun e w' => e = .returned (.bool true) ∧ Grows w w' := by
  have R1 : Rd ((w.alloc (.cells #[.int .i64 0, .int .i64 1, .int .u64 3] 93)).alloc (.cells #[.int .i64 0, .int .u64 7] 100)) (some ⟨w.heap.size, 0, none⟩) 3 1 (esCells [⟨0, 1, 3⟩]) :=
    (Rd.made (n := 1) (size := 3) [.int .i64 0, .int .i64 1, .int .u64 3] rfl).new _
  have R2 : Rd ((w.alloc (.cells #[.int .i64 0, .int .i64 1, .int .u64 3] 93)).alloc (.cells #[.int .i64 0, .int .u64 7] 100)) (some ⟨w.heap.size + 1, 0, none⟩) 2 1 (csCells [⟨0, 7⟩]) := by
    have h := Rd.made (w := w.alloc (.cells #[.int .i64 0, .int .i64 1, .int .u64 3] 93)) (t := 100) (n := 1) (size := 2) [.int .i64 0, .int .u64 7] rfl
    rw [show (w.alloc (.cells #[.int .i64 0, .int .i64 1, .int .u64 3] 93)).heap.size = w.heap.size + 1 by simp] at h
    exact h
  have C := chApply 2 _ 1 1 [⟨0, 1, 3⟩] _ 1 1 [⟨0, 7⟩] _ R1 (by omega) R2 (by omega)
  rw [alive33v.1, alive33v.2] at C
  have HC := hide C
  clear C R1 R2
  generalize apN 2 [⟨0, 1, 3⟩] [⟨0, 7⟩] = N4 at *
  generalize apI 2 [⟨0, 1, 3⟩] [⟨0, 7⟩] = i4 at *
  go_enter Try.func11, Try.ntmps11
  go_wp2_with fail
  refine HC.out.mono ?_
  rintro e w1 ⟨A, c, rfl, hr, hg⟩
  obtain ⟨x, rfl⟩ := hg.later
  obtain ⟨b, off, rfl, hc⟩ := hr.edgesH (by simp)
  obtain ⟨_, _, c3⟩ := hc 0 (by simp)
  have c3 : Holds x.now ⟨b, off + 2, none⟩ (.int .u64 7) := by
    have := c3
    simp only [Nat.zero_mul, Nat.add_zero] at this
    exact this
  have HR := hide hr
  clear hr hc hg
  go_wp2
  all_goals go_ret
  all_goals exact ⟨rfl, GG⟩
end Go.Proofs.Ytgplpgldhoelcaa

namespace Go.Proofs.Ytgplpgldhoelcaa
open Go Go.ChangeShapes Go.WideShapes Go.ChangeAt Go.RowKit
def chOk (e : Chg) : Prop := I64 e.e ∧ U64 e.w
section
variable {H : Type} {enc : TypeId × Value → H} {P : Program} {w : World} {base b0 : Nat} {held : Bool} {r : Reach} {t : TypeId} {v : Value} {d : DataW H} {p : List MemPlace}

theorem open_chgsC {te : TypeId} {f0 f1 : Field} {fuel : Nat} {x : DataW H × List MemPlace} {cs : List Value} (ht : P.underlying t = some (.slice te)) (hs : P.underlying te = some (.struct #[f0, f1]))
    (h0 : P.underlying f0.type = some (.int .i64)) (h1 : P.underlying f1.type = some (.int .u64)) (ho : f0.offset = 0 ∧ f1.offset = 1)
    (hcs : P.cellsOf f0.type = 1 ∧ P.cellsOf f1.type = 1) (hc : P.cellsOf te = 2) (h : DataW.trod enc P w base (fun _ => true) held fuel t cs = some x) :
    ∃ (A : Option Addr) (n c : Nat) (E : List Chg), cs = [.slice A n c] ∧ n ≤ c ∧ Rd w A 2 n (csCells E) ∧ ∀ k, k < n → chOk (gc E k) := by
  obtain ⟨A, n, c, F, rfl, hl, _, hr, hF⟩ := open_elems ht hc (by omega) h
  have hE : ∀ i, i < n → ∃ e : Chg, F i = cCells e ∧ chOk e := fun i hi => by
    obtain ⟨hlen, m, y, hy⟩ := hF i hi
    obtain ⟨y0, y1, k, _, _, e0, e1⟩ := trod_struct2 hs hy
    rw [ho.1, hcs.1] at e0
    rw [ho.2, hcs.2] at e1
    obtain ⟨c0, c1, hFi⟩ : ∃ c0 c1, F i = [c0, c1] := by
      match F i, hlen with
      | [c0, c1], _ => exact ⟨c0, c1, rfl⟩
    rw [hFi] at e0 e1 ⊢
    obtain ⟨a, ha, _, wa⟩ := DataW.trod_int h0 e0
    obtain ⟨b, hb, _, wb⟩ := DataW.trod_int h1 e1
    simp at ha hb
    subst ha hb
    exact ⟨⟨a, b⟩, rfl, wf_i64 wa, wf_u64 wb⟩
  obtain ⟨f, hf⟩ := Deep.choose_lt (α := Option Chg) (p := fun i o => ∃ e, o = some e ∧ F i = cCells e ∧ chOk e) (fun i hi => by obtain ⟨e, h⟩ := hE i hi; exact ⟨some e, e, rfl, h⟩)
  let f' : Nat → Chg := fun i => (f i).getD ⟨0, 0⟩
  have hf' : ∀ i, i < n → F i = cCells (f' i) ∧ chOk (f' i) := fun i hi => by
    obtain ⟨e, h1, h2⟩ := hf i hi
    simp only [f', h1, Option.getD_some]
    exact h2
  refine ⟨A, n, c, (List.range n).map f', rfl, hl, ?_, fun k hk => ?_⟩
  · have e : csCells ((List.range n).map f') = (List.range n).flatMap F := by
      unfold csCells
      rw [List.flatMap_map, List.flatMap_def, List.flatMap_def]
      exact congrArg List.flatten (List.map_congr_left fun i hi => ((hf' i (List.mem_range.1 hi)).1).symm)
    rw [e]
    exact hr
  · have : gc ((List.range n).map f') k = f' k := by simp [gc, hk]
    rw [this]
    exact (hf' k hk).2
theorem open_chgs {te : TypeId} {f0 f1 : Field} (ht : P.underlying t = some (.slice te)) (hs : P.underlying te = some (.struct #[f0, f1]))
    (h0 : P.underlying f0.type = some (.int .i64)) (h1 : P.underlying f1.type = some (.int .u64)) (ho : f0.offset = 0 ∧ f1.offset = 1)
    (hcs : P.cellsOf f0.type = 1 ∧ P.cellsOf f1.type = 1) (hc : P.cellsOf te = 2)
    (hv : Value.okWide P w r b0 t v) (h : DataW.Trod enc P w base (fun _ => true) held t v d p) :
    ∃ (A : Option Addr) (n c : Nat) (E : List Chg), v = .slice A n c ∧ n ≤ c ∧ Rd w A 2 n (csCells E) ∧ ∀ k, k < n → chOk (gc E k) := by
  obtain ⟨A, n, c, rfl⟩ := okWide_slice ht hv
  obtain ⟨fuel, hf⟩ := h
  obtain ⟨A', n', c', E, hcs', hl, hr, hE⟩ := open_chgsC ht hs h0 h1 ho hcs hc hf
  simp [Value.cells] at hcs'
  obtain ⟨rfl, rfl, rfl⟩ := hcs'
  exact ⟨A, n, c, E, rfl, hl, hr, hE⟩
end
end Go.Proofs.Ytgplpgldhoelcaa

namespace Go.Proofs.Ytgplpgldhoelcaa
open Go Go.RowKit
attribute [local go_sem] Oper.semAt_some
def GcQ (N n : Nat) (E : List Edg) : Pr := fun u w => ∃ A c, u = .agg #[.int .i64 (N : Int), .slice A n c] ∧ Rd w A 3 n (esCells E)
theorem GcQ.lasts (N n : Nat) (E : List Edg) : Lasts (GcQ N n E) := fun _ _ _ hg ⟨A, c, e, h⟩ => ⟨A, c, e, h.grows hg⟩
theorem field_hQ (B A : Option Addr) (m d n c : Nat) (w : World) : (Instr.field 63 (.agg #[.slice B m d, .slice A n c]) 0).run Try.prog w = .ok (.slice B m d) w := by kernel_rfl
def CgP (L : List Chg) : Pr := fun u w => ∃ A c, u = .slice A L.length c ∧ Rd w A 2 L.length (csCells L)
theorem CgP.lasts (L : List Chg) : Lasts (CgP L) := fun _ _ _ hg ⟨A, c, e, h⟩ => ⟨A, c, e, h.grows hg⟩
def AgP (f : Addr → Value) (k p q : Nat) (E : List Edg) (r : List Nat) : Pr := fun u w => ∃ b r2 vs2, u = f ⟨b, 0, none⟩ ∧ InvR k r2 vs2 ∧ nvI r2 = nvI r ∧ HiAt w b k E r2 ((blt k p q E vs2).map Sc.si)
theorem AgP.lasts (f : Addr → Value) (k p q : Nat) (E : List Edg) (r : List Nat) : Lasts (AgP f k p q E r) := fun _ _ _ hg ⟨b, r2, vs2, e, h1, h2, h3⟩ => ⟨b, r2, vs2, e, h1, h2, h3.grow hg⟩
theorem coRB_no {p q : Int} {l : List Int} (h : coRB p q l = false) : ¬ (1 ≤ p) ∨ (1 ≤ p ∧ ¬ (p ≤ 1000)) ∨ (1 ≤ p ∧ p ≤ 1000 ∧ ¬ (1 ≤ q)) ∨ (1 ≤ p ∧ p ≤ 1000 ∧ 1 ≤ q ∧ ¬ (q ≤ 1000)) ∨ (1 ≤ p ∧ p ≤ 1000 ∧ 1 ≤ q ∧ q ≤ 1000 ∧ rkB l = false) := by
  by_cases h1 : 1 ≤ p
  · by_cases h2 : p ≤ 1000
    · by_cases h3 : 1 ≤ q
      · by_cases h4 : q ≤ 1000
        · refine .inr (.inr (.inr (.inr ⟨h1, h2, h3, h4, ?_⟩)))
          unfold coRB at h
          rwa [decide_eq_true (⟨h1, h2, h3, h4⟩ : 1 ≤ p ∧ p ≤ 1000 ∧ 1 ≤ q ∧ q ≤ 1000), Bool.true_and] at h
        · exact .inr (.inr (.inr (.inl ⟨h1, h2, h3, h4⟩)))
      · exact .inr (.inr (.inl ⟨h1, h2, h3⟩))
    · exact .inr (.inl ⟨h1, h2⟩)
  · exact .inl h1
theorem coRB_yes {p q : Int} {l : List Int} (h : coRB p q l = true) : 1 ≤ p ∧ p ≤ 1000 ∧ 1 ≤ q ∧ q ≤ 1000 ∧ rkB l = true := by
  unfold coRB at h
  simp only [Bool.and_eq_true, decide_eq_true_eq] at h
  exact ⟨h.1.1, h.1.2.1, h.1.2.2.1, h.1.2.2.2, h.2⟩
set_option maxRecDepth 40000 in
set_option maxHeartbeats 8000000 in
theorem againBig (N : Int) (A : Option Addr) (n c : Nat) (hops settles : Int) (B : Option Addr) (m d : Nat) (hops2 settles2 : Int) (B2 : Option Addr) (m2 d2 : Nat) (C : Option Addr) (kk ee : Nat) (e : Int) (w : World)
    (hno : light20B N n = false ∨ (light20B N n = true ∧ (60 : Int) < m) ∨ (light20B N n = true ∧ ¬ (60 : Int) < m ∧ (60 : Int) < m2) ∨ (light20B N n = true ∧ ¬ (60 : Int) < m ∧ ¬ (60 : Int) < m2 ∧ (40 : Int) < kk)) :
    Calls Try.prog 4 #[.agg #[.int .i64 N, .slice A n c], .agg #[.int .i64 hops, .int .i64 settles, .slice B m d], .agg #[.int .i64 hops2, .int .i64 settles2, .slice B2 m2 d2], .slice C kk ee, .int .i64 e] w fun e w' => e = .returned (.bool true) ∧ Grows w w' := by
  have CL := hide (fun (W : World) => lLight20 N A n c W)
  have CA := hide (fun (W : World) => alive33 W)
  rcases hno with h1 | ⟨h1, h2⟩ | ⟨h1, h2, h3⟩ | ⟨h1, h2, h3, h4⟩
  all_goals (
    rw [h1] at CL
    clear h1
    go_enter Try.func4, Try.ntmps4
    go_wp2_with (first
      | (go_at_call 10; refine (CL.out _).mono ?_; rintro e w' ⟨rfl, hg⟩; obtain ⟨x1, rfl⟩ := hg.later; clear hg)
      | (go_at_call 11; refine (CA.out _).mono ?_; rintro e w' ⟨rfl, hg⟩; obtain ⟨x2, rfl⟩ := hg.later; clear hg))
    go_ret
    exact ⟨rfl, GG⟩)
set_option maxRecDepth 40000 in
set_option maxHeartbeats 8000000 in
theorem againNone (N : Int) (A : Option Addr) (n c : Nat) (hops settles : Int) (B : Option Addr) (m d : Nat) (hops2 settles2 : Int) (B2 : Option Addr) (m2 d2 : Nat) (l2 : List Int) (C : Option Addr) (kk ee : Nat) (L : List Chg) (e F : Int) (w : World) (hl2 : Rd w B2 1 m2 (l2.map (.int .i64))) (hc : Rd w C 2 kk (csCells L))
    (h1 : light20B N n = true) (h2 : ¬ (60 : Int) < m) (h3 : ¬ (60 : Int) < m2) (h4 : ¬ (40 : Int) < kk) (hF : F ≠ 0)
    (hB : ∀ W, Grows w W → Calls Try.prog 12 #[.agg #[.int .i64 N, .slice A n c], .agg #[.int .i64 hops, .int .i64 settles, .slice B m d]] W fun e w' => e = .returned (.tuple #[.pointer none, .int .i64 F]) ∧ Grows W w') :
    Calls Try.prog 4 #[.agg #[.int .i64 N, .slice A n c], .agg #[.int .i64 hops, .int .i64 settles, .slice B m d], .agg #[.int .i64 hops2, .int .i64 settles2, .slice B2 m2 d2], .slice C kk ee, .int .i64 e] w fun e w' => e = .returned (.bool true) ∧ Grows w w' := by
  have CL := hide (fun (W : World) => lLight20 N A n c W)
  have CA := hide (fun (W : World) => alive33 W)
  have CB := hide hB
  have CR := hide (fun (W : World) (g : Grows w W) => r18Right B2 m2 d2 l2 W (hl2.grows g) (by omega))
  have CO := hide (fun (W : World) (g : Grows w W) => law33of C kk ee L W (hc.grows g) (by omega))
  have CG := hide (fun (A1 : Option Addr) (n1 c1 : Nat) (W : World) => chAgainNil A1 n1 c1 hops2 settles2 B2 m2 d2 W)
  have CH := hide (fun (W : World) => chHangsNil e W)
  have hfb : (F != 0) = true := by simpa using hF
  rw [h1] at CL
  have hall : ¬ (1 ≤ hops2) ∨ (1 ≤ hops2 ∧ ¬ (hops2 ≤ 1000)) ∨ (1 ≤ hops2 ∧ hops2 ≤ 1000 ∧ ¬ (1 ≤ settles2)) ∨ (1 ≤ hops2 ∧ hops2 ≤ 1000 ∧ 1 ≤ settles2 ∧ ¬ (settles2 ≤ 1000)) ∨ (1 ≤ hops2 ∧ hops2 ≤ 1000 ∧ 1 ≤ settles2 ∧ settles2 ≤ 1000) := by omega
  have e2 : decide ((60 : Int) < (m : Int)) = false := decide_eq_false h2
  have e3 : decide ((60 : Int) < (m2 : Int)) = false := decide_eq_false h3
  have e4 : decide ((40 : Int) < (kk : Int)) = false := decide_eq_false h4
  clear hl2 hc h1 hB hF h2 h3 h4
  rcases hall with g1 | ⟨g1, g2⟩ | ⟨g1, g2, g3⟩ | ⟨g1, g2, g3, g4⟩ | ⟨g1, g2, g3, g4⟩
  all_goals (
    go_enter Try.func4, Try.ntmps4
    go_upto_region 1 with fail
    obtain ⟨W1, hW1⟩ : ∃ W1, W1 = (((w.alloc (.cells #[.int .i64 N, .slice A n c] 44)).alloc (.cells #[.int .i64 hops, .int .i64 settles, .slice B m d] 37)).alloc (.cells #[.int .i64 hops2, .int .i64 settles2, .slice B2 m2 d2] 37)) := ⟨_, rfl⟩
    have a5 : Arr W1 w.heap.size 44 [.int .i64 N, .slice A n c] := by rw [hW1]; exact ((Arr.make _ _ _).grow ((Grows.refl _).new _)).grow ((Grows.refl _).new _)
    have a6 : Arr W1 (w.heap.size + 1) 37 [.int .i64 hops, .int .i64 settles, .slice B m d] := by
      have h1 := (Arr.make (w.alloc (.cells #[.int .i64 N, .slice A n c] 44)) [.int .i64 hops, .int .i64 settles, .slice B m d] 37).grow ((Grows.refl _).new (.cells #[.int .i64 hops2, .int .i64 settles2, .slice B2 m2 d2] 37))
      rw [hW1]
      simpa using h1
    have a7 : Arr W1 (w.heap.size + 1 + 1) 37 [.int .i64 hops2, .int .i64 settles2, .slice B2 m2 d2] := by
      have h1 := Arr.make ((w.alloc (.cells #[.int .i64 N, .slice A n c] 44)).alloc (.cells #[.int .i64 hops, .int .i64 settles, .slice B m d] 37)) [.int .i64 hops2, .int .i64 settles2, .slice B2 m2 d2] 37
      rw [hW1]
      simpa using h1
    have hgW : Grows w W1 := by rw [hW1]; exact (((Grows.refl _).new _).new _).new _
    rw [← hW1]
    clear hW1
    generalize w.heap.size + 1 + 1 = b7 at *
    generalize w.heap.size + 1 = b6 at *
    generalize w.heap.size = b5 at *
    obtain ⟨y1, rfl⟩ := hgW.later
    clear hgW
    go_upto_region 4 with (first
      | (go_at_call 10; refine (CL.out _).mono ?_; rintro e w' ⟨rfl, hg⟩; obtain ⟨x1, rfl⟩ := hg.later; clear hg)
      | (go_at_call 12; refine (CB.out _ GG).mono ?_; rintro e w' ⟨rfl, hg⟩; obtain ⟨x2, rfl⟩ := hg.later; clear hg))
    refine wp_region_gen (by kernel_rfl) (by kernel_rfl) ?_
    (repeat' (first | (refine gLex_val0 rfl (by kernel_rfl) (fun K hK => ?_); (go_simp; (try (simp only [↓IntWalk.iteOmega]; try go_simp)); (try simp (disch := omega) only [IntWalk.i64_in]); (try simp (disch := omega) only [IntWalk.u64_in]); first | (refine hK _ ?_; clear hK K) | (apply Exists.intro; refine ⟨fun x => ?_, hK _ ?_⟩; (first | fail); clear hK K))) | (refine gLex_undef rfl rfl rfl (by kernel_rfl) (fun K hK => ?_); go_simp; refine hK _ ?_; clear hK K) | (refine gLex_ask rfl rfl rfl ?_; first | (apply gAsk_yes; kernel_rfl; intro K hK; (go_simp; (try (simp only [↓IntWalk.iteOmega]; try go_simp)); (try simp (disch := omega) only [IntWalk.i64_in]); (try simp (disch := omega) only [IntWalk.u64_in]); first | (refine hK _ ?_; clear hK K) | (apply Exists.intro; refine ⟨fun x => ?_, hK _ ?_⟩; (first | fail); clear hK K))) | ((first | apply gAsk_no1 | apply gAsk_no2); kernel_rfl; intro K hK; simp [go_sem]; refine hK _ ?_; clear hK K))))
    refine gLex_propG (by kernel_rfl) (by kernel_rfl) rfl (by simp) (CgP L) (CgP.lasts _) (fun y => by
      go_simp
      refine (CO.out _ GG).mono ?_
      rintro e w' ⟨A1, c1, rfl, ho1, hg⟩
      exact ⟨_, rfl, hg, A1, c1, rfl, ho1.rd⟩) ?_
    (repeat' (first | (refine gLex_val0 rfl (by kernel_rfl) (fun K hK => ?_); (go_simp; (try (simp only [↓IntWalk.iteOmega]; try go_simp)); (try simp (disch := omega) only [IntWalk.i64_in]); (try simp (disch := omega) only [IntWalk.u64_in]); first | (refine hK _ ?_; clear hK K) | (apply Exists.intro; refine ⟨fun x => ?_, hK _ ?_⟩; (first | fail); clear hK K))) | (refine gLex_undef rfl rfl rfl (by kernel_rfl) (fun K hK => ?_); go_simp; refine hK _ ?_; clear hK K) | (refine gLex_ask rfl rfl rfl ?_; first | (apply gAsk_yes; kernel_rfl; intro K hK; (go_simp; (try (simp only [↓IntWalk.iteOmega]; try go_simp)); (try simp (disch := omega) only [IntWalk.i64_in]); (try simp (disch := omega) only [IntWalk.u64_in]); first | (refine hK _ ?_; clear hK K) | (apply Exists.intro; refine ⟨fun x => ?_, hK _ ?_⟩; (first | fail); clear hK K))) | ((first | apply gAsk_no1 | apply gAsk_no2); kernel_rfl; intro K hK; simp [go_sem]; refine hK _ ?_; clear hK K))))
    refine gLex_depV (t0 := 50) (by kernel_rfl) (by kernel_rfl) rfl (by simp) (.tuple #[.pointer none, .int .i64 0, .int .i64 1]) (fun y u1 hu1 => by
      obtain ⟨A1, c1, rfl, h1⟩ := hu1
      go_simp
      exact CG.out A1 _ c1 _) ?_
    simp only [Act.put, List.setIfInBounds_toArray, List.set_cons_zero, List.set_cons_succ]
    (repeat' (first | (refine gLex_val0 rfl (by kernel_rfl) (fun K hK => ?_); (go_simp; (try (simp only [↓IntWalk.iteOmega]; try go_simp)); (try simp (disch := omega) only [IntWalk.i64_in]); (try simp (disch := omega) only [IntWalk.u64_in]); first | (refine hK _ ?_; clear hK K) | (apply Exists.intro; refine ⟨fun x => ?_, hK _ ?_⟩; (first | fail); clear hK K))) | (refine gLex_undef rfl rfl rfl (by kernel_rfl) (fun K hK => ?_); go_simp; refine hK _ ?_; clear hK K) | (refine gLex_ask rfl rfl rfl ?_; first | (apply gAsk_yes; kernel_rfl; intro K hK; (go_simp; (try (simp only [↓IntWalk.iteOmega]; try go_simp)); (try simp (disch := omega) only [IntWalk.i64_in]); (try simp (disch := omega) only [IntWalk.u64_in]); first | (refine hK _ ?_; clear hK K) | (apply Exists.intro; refine ⟨fun x => ?_, hK _ ?_⟩; (first | fail); clear hK K))) | ((first | apply gAsk_no1 | apply gAsk_no2); kernel_rfl; intro K hK; simp [go_sem]; refine hK _ ?_; clear hK K))))
    refine gLex_endB (fun z => ?_)
    refine AtB.pop rfl (by simp) (fun z1 _ => ?_)
    refine AtB.base ?_
    simp only [Act.put, List.setIfInBounds_toArray, List.set_cons_zero, List.set_cons_succ]
    go_wp2_with (first
      | (go_at_call 15; refine (CR.out _ GG).mono ?_; rintro e w' ⟨rfl, hg⟩; obtain ⟨x5, rfl⟩ := hg.later; clear hg)
      | (go_at_call 16; refine (CH.out _).mono ?_; rintro e w' ⟨rfl, hg⟩; obtain ⟨x6, rfl⟩ := hg.later; clear hg)
      | (go_at_call 11; refine (CA.out _).mono ?_; rintro e w' ⟨rfl, hg⟩; obtain ⟨x7, rfl⟩ := hg.later; clear hg))
    go_ret
    exact ⟨rfl, GG⟩)
end Go.Proofs.Ytgplpgldhoelcaa

namespace Go.Proofs.Ytgplpgldhoelcaa
open Go Go.RowKit
attribute [local go_sem] Oper.semAt_some
set_option maxRecDepth 40000 in
set_option maxHeartbeats 8000000 in
theorem againNot (k : Nat) (A : Option Addr) (n c : Nat) (E : List Edg) (p q : Nat) (B : Option Addr) (m d : Nat) (l : List Int) (hops2 settles2 : Int) (B2 : Option Addr) (m2 d2 : Nat) (l2 : List Int) (C : Option Addr) (kk ee : Nat) (L : List Chg) (e : Int) (w : World) (h : Rd w A 3 n (esCells E)) (hl : Rd w B 1 m (l.map (.int .i64))) (hl2 : Rd w B2 1 m2 (l2.map (.int .i64))) (hc : Rd w C 2 kk (csCells L))
    (h1 : light20B (k : Int) n = true) (h2 : ¬ (60 : Int) < m) (h3 : ¬ (60 : Int) < m2) (h4 : ¬ (40 : Int) < kk) (hok : rightF (k : Int) E = 0) (hor : coRB (p : Int) (q : Int) l = true) (hk : k ≤ 12) (hn : n ≤ 40) (hmm : m = 0 ∨ m = k) (hbad : coRB hops2 settles2 l2 = false) :
    Calls Try.prog 4 #[.agg #[.int .i64 (k : Int), .slice A n c], .agg #[.int .i64 (p : Int), .int .i64 (q : Int), .slice B m d], .agg #[.int .i64 hops2, .int .i64 settles2, .slice B2 m2 d2], .slice C kk ee, .int .i64 e] w fun e w' => e = .returned (.bool true) ∧ Grows w w' := by
  have CL := hide (fun (W : World) => lLight20 (k : Int) A n c W)
  have CA := hide (fun (W : World) => alive33 W)
  have CB := hide (fun (W : World) (g : Grows w W) => (hiBuilt k A n c E p q B m d l W (h.grows g) hok (hl.grows g) hor hk hn hmm).mono (fun e w' h => (show ∃ b, e = Ending.returned (.tuple #[.pointer (some ⟨b, 0, none⟩), .int .i64 0]) ∧ Grows W w' from by obtain ⟨b, _, _, e1, _, _, _, hg⟩ := h; exact ⟨b, e1, hg⟩)))
  have CR := hide (fun (W : World) (g : Grows w W) => r18Right B2 m2 d2 l2 W (hl2.grows g) (by omega))
  have CO := hide (fun (W : World) (g : Grows w W) => law33of C kk ee L W (hc.grows g) (by omega))
  have CG := hide (fun (b1 : Nat) (A1 : Option Addr) (n1 c1 : Nat) (W : World) (g : Grows w W) => chAgainOpt ⟨b1, 0, none⟩ A1 n1 c1 hops2 settles2 B2 m2 d2 l2 W (hl2.grows g) (by omega) hbad)
  have CH := hide (fun (W : World) => chHangsNil e W)
  rw [h1] at CL
  have hall := coRB_no hbad
  have e2 : decide ((60 : Int) < (m : Int)) = false := decide_eq_false h2
  have e3 : decide ((60 : Int) < (m2 : Int)) = false := decide_eq_false h3
  have e4 : decide ((40 : Int) < (kk : Int)) = false := decide_eq_false h4
  clear hl2 hc h1 h hl hok hor hk hn hmm hbad h2 h3 h4
  rcases hall with g1 | ⟨g1, g2⟩ | ⟨g1, g2, g3⟩ | ⟨g1, g2, g3, g4⟩ | ⟨g1, g2, g3, g4, g5⟩
  all_goals (try rw [g5] at CR)
  all_goals (try clear g5)
  all_goals (
    go_enter Try.func4, Try.ntmps4
    go_upto_region 1 with fail
    obtain ⟨W1, hW1⟩ : ∃ W1, W1 = (((w.alloc (.cells #[.int .i64 (k : Int), .slice A n c] 44)).alloc (.cells #[.int .i64 (p : Int), .int .i64 (q : Int), .slice B m d] 37)).alloc (.cells #[.int .i64 hops2, .int .i64 settles2, .slice B2 m2 d2] 37)) := ⟨_, rfl⟩
    have a5 : Arr W1 w.heap.size 44 [.int .i64 (k : Int), .slice A n c] := by rw [hW1]; exact ((Arr.make _ _ _).grow ((Grows.refl _).new _)).grow ((Grows.refl _).new _)
    have a6 : Arr W1 (w.heap.size + 1) 37 [.int .i64 (p : Int), .int .i64 (q : Int), .slice B m d] := by
      have h1 := (Arr.make (w.alloc (.cells #[.int .i64 (k : Int), .slice A n c] 44)) [.int .i64 (p : Int), .int .i64 (q : Int), .slice B m d] 37).grow ((Grows.refl _).new (.cells #[.int .i64 hops2, .int .i64 settles2, .slice B2 m2 d2] 37))
      rw [hW1]
      simpa using h1
    have a7 : Arr W1 (w.heap.size + 1 + 1) 37 [.int .i64 hops2, .int .i64 settles2, .slice B2 m2 d2] := by
      have h1 := Arr.make ((w.alloc (.cells #[.int .i64 (k : Int), .slice A n c] 44)).alloc (.cells #[.int .i64 (p : Int), .int .i64 (q : Int), .slice B m d] 37)) [.int .i64 hops2, .int .i64 settles2, .slice B2 m2 d2] 37
      rw [hW1]
      simpa using h1
    have hgW : Grows w W1 := by rw [hW1]; exact (((Grows.refl _).new _).new _).new _
    rw [← hW1]
    clear hW1
    generalize w.heap.size + 1 + 1 = b7 at *
    generalize w.heap.size + 1 = b6 at *
    generalize w.heap.size = b5 at *
    obtain ⟨y1, rfl⟩ := hgW.later
    clear hgW
    go_upto_region 4 with (first
      | (go_at_call 10; refine (CL.out _).mono ?_; rintro e w' ⟨rfl, hg⟩; obtain ⟨x1, rfl⟩ := hg.later; clear hg)
      | (go_at_call 12; refine (CB.out _ GG).mono ?_; rintro e w' ⟨b1, rfl, hg⟩; obtain ⟨x2, rfl⟩ := hg.later; clear hg))
    refine wp_region_gen (by kernel_rfl) (by kernel_rfl) ?_
    (repeat' (first | (refine gLex_val0 rfl (by kernel_rfl) (fun K hK => ?_); (go_simp; (try (simp only [↓IntWalk.iteOmega]; try go_simp)); (try simp (disch := omega) only [IntWalk.i64_in]); (try simp (disch := omega) only [IntWalk.u64_in]); first | (refine hK _ ?_; clear hK K) | (apply Exists.intro; refine ⟨fun x => ?_, hK _ ?_⟩; (first | fail); clear hK K))) | (refine gLex_undef rfl rfl rfl (by kernel_rfl) (fun K hK => ?_); go_simp; refine hK _ ?_; clear hK K) | (refine gLex_ask rfl rfl rfl ?_; first | (apply gAsk_yes; kernel_rfl; intro K hK; (go_simp; (try (simp only [↓IntWalk.iteOmega]; try go_simp)); (try simp (disch := omega) only [IntWalk.i64_in]); (try simp (disch := omega) only [IntWalk.u64_in]); first | (refine hK _ ?_; clear hK K) | (apply Exists.intro; refine ⟨fun x => ?_, hK _ ?_⟩; (first | fail); clear hK K))) | ((first | apply gAsk_no1 | apply gAsk_no2); kernel_rfl; intro K hK; simp [go_sem]; refine hK _ ?_; clear hK K))))
    refine gLex_propG (by kernel_rfl) (by kernel_rfl) rfl (by simp) (CgP L) (CgP.lasts _) (fun y => by
      go_simp
      refine (CO.out _ GG).mono ?_
      rintro e w' ⟨A1, c1, rfl, ho1, hg⟩
      exact ⟨_, rfl, hg, A1, c1, rfl, ho1.rd⟩) ?_
    (repeat' (first | (refine gLex_val0 rfl (by kernel_rfl) (fun K hK => ?_); (go_simp; (try (simp only [↓IntWalk.iteOmega]; try go_simp)); (try simp (disch := omega) only [IntWalk.i64_in]); (try simp (disch := omega) only [IntWalk.u64_in]); first | (refine hK _ ?_; clear hK K) | (apply Exists.intro; refine ⟨fun x => ?_, hK _ ?_⟩; (first | fail); clear hK K))) | (refine gLex_undef rfl rfl rfl (by kernel_rfl) (fun K hK => ?_); go_simp; refine hK _ ?_; clear hK K) | (refine gLex_ask rfl rfl rfl ?_; first | (apply gAsk_yes; kernel_rfl; intro K hK; (go_simp; (try (simp only [↓IntWalk.iteOmega]; try go_simp)); (try simp (disch := omega) only [IntWalk.i64_in]); (try simp (disch := omega) only [IntWalk.u64_in]); first | (refine hK _ ?_; clear hK K) | (apply Exists.intro; refine ⟨fun x => ?_, hK _ ?_⟩; (first | fail); clear hK K))) | ((first | apply gAsk_no1 | apply gAsk_no2); kernel_rfl; intro K hK; simp [go_sem]; refine hK _ ?_; clear hK K))))
    refine gLex_depV (t0 := 50) (by kernel_rfl) (by kernel_rfl) rfl (by simp) (.tuple #[.pointer none, .int .i64 0, .int .i64 1]) (fun y u1 hu1 => by
      obtain ⟨A1, c1, rfl, h1⟩ := hu1
      go_simp
      exact CG.out _ A1 _ c1 _ GG) ?_
    simp only [Act.put, List.setIfInBounds_toArray, List.set_cons_zero, List.set_cons_succ]
    (repeat' (first | (refine gLex_val0 rfl (by kernel_rfl) (fun K hK => ?_); (go_simp; (try (simp only [↓IntWalk.iteOmega]; try go_simp)); (try simp (disch := omega) only [IntWalk.i64_in]); (try simp (disch := omega) only [IntWalk.u64_in]); first | (refine hK _ ?_; clear hK K) | (apply Exists.intro; refine ⟨fun x => ?_, hK _ ?_⟩; (first | fail); clear hK K))) | (refine gLex_undef rfl rfl rfl (by kernel_rfl) (fun K hK => ?_); go_simp; refine hK _ ?_; clear hK K) | (refine gLex_ask rfl rfl rfl ?_; first | (apply gAsk_yes; kernel_rfl; intro K hK; (go_simp; (try (simp only [↓IntWalk.iteOmega]; try go_simp)); (try simp (disch := omega) only [IntWalk.i64_in]); (try simp (disch := omega) only [IntWalk.u64_in]); first | (refine hK _ ?_; clear hK K) | (apply Exists.intro; refine ⟨fun x => ?_, hK _ ?_⟩; (first | fail); clear hK K))) | ((first | apply gAsk_no1 | apply gAsk_no2); kernel_rfl; intro K hK; simp [go_sem]; refine hK _ ?_; clear hK K))))
    refine gLex_endB (fun z => ?_)
    refine AtB.pop rfl (by simp) (fun z1 _ => ?_)
    refine AtB.base ?_
    simp only [Act.put, List.setIfInBounds_toArray, List.set_cons_zero, List.set_cons_succ]
    go_wp2_with (first
      | (go_at_call 15; refine (CR.out _ GG).mono ?_; rintro e w' ⟨rfl, hg⟩; obtain ⟨x5, rfl⟩ := hg.later; clear hg)
      | (go_at_call 16; refine (CH.out _).mono ?_; rintro e w' ⟨rfl, hg⟩; obtain ⟨x6, rfl⟩ := hg.later; clear hg)
      | (go_at_call 11; refine (CA.out _).mono ?_; rintro e w' ⟨rfl, hg⟩; obtain ⟨x7, rfl⟩ := hg.later; clear hg))
    go_ret
    exact ⟨rfl, GG⟩)
end Go.Proofs.Ytgplpgldhoelcaa

