/- The law PenWhys: for every input it returns true, and each argument reads as before. No condition. -/
import Derived.Orders
import Derived.Still
import Derived.Below
import Derived.Calls
import Derived.WalkKit
import Derived.WalkSpells
import Derived.WalkLawsBesides
import Derived.BigQuiet
import Derived.Deep.RegionWith
import Derived.ProofKit
import Derived.OpenShut
import Derived.ShutString
import Derived.ChangeOld
import Derived.Lib.SmallJoins
import Derived.Deep.Slices
import Derived.RangeFuncRecord
import Derived.Test.YtgplpgldhoelcaaGreatRows
import Derived.Laws.OwnMore
import Derived.Maps.Own
import Derived.Maps.OwnOps
import Derived.Maps.OwnSet
import Derived.Maps.Views
import Derived.OwnWalk
import Derived.Lib.AppendZeros
import Derived.Deep.OwnRows
import Derived.StillTail
import Derived.Shelf.Bits.Mul64
import Derived.Ground.Names2Prog
import Derived.Shelf.Slices.Clone
import Derived.Ground.SlgnProg
import Derived.Shelf.SlicesE.Clone
import Derived.Test.YtgplpgldhoelcaaGreatProg
import Derived.Deep.DeepCutAuto
import Derived.RangeFuncSeq
import Derived.RangeFuncLeaves
import Derived.RangeFuncCalls
import Derived.Lib.SliceRun
import Derived.Deep.Strs
import Derived.WalkMore
import Derived.Maps.AppendAt
import Derived.OrdersIn
import Derived.TacticsIn
import Derived.RangeFuncNested
import Derived.RangeFuncBound
import Derived.Shelf.Abstract
import Derived.Shelf.RegionOpen
import Derived.OwnWalkIn
import Derived.TacticsInMore
import Derived.LoopNIn
import Derived.LoopIn
import Derived.Laws.CopyOwn
import Derived.Deep.RegionLaw
import Derived.ScopeJumps
import Derived.Deep.Cut
import Derived.Shelf.Small.Bits
import Derived.Laws.Bits64b
import Derived.Shelf.Slices.CompactI
import Derived.Laws.IdiomCopy
import Derived.Shelf.Spec.SlicesInsertGrow
import Derived.Test.YtgplpgldhoelcaaGreatQPenWays00
import Derived.Test.YtgplpgldhoelcaaGreatQPenWays01
import Derived.Test.YtgplpgldhoelcaaGreatQPenWays02
import Derived.Test.YtgplpgldhoelcaaGreatQPenWays03
import Derived.Test.YtgplpgldhoelcaaGreatQPenWays04
import Derived.Test.YtgplpgldhoelcaaGreatQPenWays05
import Derived.Test.YtgplpgldhoelcaaGreatQPenWays06
import Derived.Test.YtgplpgldhoelcaaGreatQPenWays07
import Derived.Test.YtgplpgldhoelcaaGreatQPenWays08
import Derived.Test.YtgplpgldhoelcaaGreatQPenWays09
import Derived.Test.YtgplpgldhoelcaaGreatQPenWays10
import Derived.Test.YtgplpgldhoelcaaGreatQPenWays11
import Derived.Test.YtgplpgldhoelcaaGreatQPenWays12
import Derived.Test.YtgplpgldhoelcaaGreatQPenWays13
import Derived.Test.YtgplpgldhoelcaaGreatQPenWays14
import Derived.Test.YtgplpgldhoelcaaGreatQPenWays15
import Derived.Test.YtgplpgldhoelcaaGreatQPenWays16
import Derived.Test.YtgplpgldhoelcaaGreatQPenWays17
import Derived.Test.YtgplpgldhoelcaaGreatQPenWays18
import Derived.Test.YtgplpgldhoelcaaGreatQPenWays19
import Derived.Test.YtgplpgldhoelcaaGreatQPenWays20
import Derived.Test.YtgplpgldhoelcaaGreatQPenWays21
import Derived.Test.YtgplpgldhoelcaaGreatQPenWays22
import Derived.Test.YtgplpgldhoelcaaGreatQPenWays23
import Derived.Test.YtgplpgldhoelcaaGreatQPenWays24
import Derived.Test.YtgplpgldhoelcaaGreatQPenWays25
import Derived.Test.YtgplpgldhoelcaaGreatQPenWays26
import Derived.Test.YtgplpgldhoelcaaGreatQPenWays27
import Derived.Test.YtgplpgldhoelcaaGreatQPenWays28
namespace Go.Proofs.YtgplpgldhoelcaaGreat
open Go Go.ChangeShapes Go.WideShapes Go.ChangeAt Go.RowKit

section
variable {H : Type} {enc : TypeId × Value → H} {P : Program} {w : World} {base b0 : Nat} {spare : Nat → Bool} {held : Bool} {r : Reach} {t : TypeId} {v : Value} {d : DataW H} {p : List MemPlace}

theorem open_nums {e : TypeId} {k : IntKind} (ht : P.underlying t = some (.slice e)) (he : P.underlying e = some (.int k)) (hc : P.cellsOf e = 1)
    (hv : Value.okWide P w r b0 t v) (h : DataW.Trod enc P w base (fun _ => true) held t v d p) :
    ∃ (A : Option Addr) (n c : Nat) (zs : List Int), v = .slice A n c ∧ Rd w A 1 n (zs.map (.int k)) ∧ ∀ z ∈ zs, (Lit.int k z).wf = true := by
  obtain ⟨A, n, c, rfl⟩ := okWide_slice ht hv
  obtain ⟨fuel, hf⟩ := h
  rcases open_ints ht he hc hf with ⟨hcs, _⟩ | ⟨x, l, c', zs, hcs, _, hl, hm, hz, _, hcell, hwz⟩
  · simp [Value.cells] at hcs
    obtain ⟨rfl, rfl, rfl⟩ := hcs
    exact ⟨none, 0, 0, [], rfl, ⟨rfl, fun h => by omega⟩, fun z hz => by cases hz⟩
  · simp [Value.cells] at hcs
    obtain ⟨rfl, rfl, rfl⟩ := hcs
    have hz' : zs.length = c := by simpa using hz
    refine ⟨_, n, c, zs.take n, rfl, ⟨by simp; omega, fun h1 _ => ?_⟩, fun z hz => hwz z (List.mem_of_mem_take hz)⟩
    obtain ⟨b, off, spot⟩ := x
    have h0 := hcell 0 (by omega)
    have hs : spot = none := by simpa [Addr.add] using spot_none h0
    subst hs
    refine ⟨b, off, rfl, fun j u hu => ?_⟩
    have hj : j < n := by
      rcases Nat.lt_or_ge j n with h | h
      · exact h
      · rw [List.getElem?_eq_none (by simp; omega)] at hu; cases hu
    have hcj := hcell j (by omega)
    have hjz : j < zs.length := by omega
    have hu' : u = .int k (zs.getD j 0) := by
      simp [hj, List.getElem?_eq_getElem hjz] at hu
      simp [← hu, List.getElem?_eq_getElem hjz]
    rw [hu']
    have ha : (⟨b, off, none⟩ : Addr).add j = ⟨b, off + j, none⟩ := by
      unfold Addr.add
      split
      · rename_i h0; rw [h0]; rfl
      · rfl
    rw [ha] at hcj
    exact hcj
end

end Go.Proofs.YtgplpgldhoelcaaGreat

namespace Go.Proofs.YtgplpgldhoelcaaGreat
open Go Go.RowKit
theorem same_false {L M : List Nat} {j : Nat} (hl : L.length = M.length) (_ : j < L.length) (h : gn L j ≠ gn M j) : decide (L = M) = false := by
  rw [decide_eq_false_iff_not]
  rintro rfl
  exact h rfl
theorem same_true {L M : List Nat} (hl : L.length = M.length) (h : ∀ j, j < L.length → gn L j = gn M j) : decide (L = M) = true := by
  rw [decide_eq_true_eq]
  refine List.ext_getElem hl fun j h1 h2 => ?_
  have := h j h1
  simpa [gn, h1, h2] using this
set_option maxRecDepth 20000 in
set_option maxHeartbeats 2000000 in
theorem r1Wide (A : Option Addr) (n c : Nat) (L : List Nat) (B : Option Addr) (m d : Nat) (M : List Nat) (w : World) (h : Rd w A 1 n (wv L)) (h' : Rd w B 1 m (wv M)) (hn : n ≤ 1000000) (hm : m ≤ 1000000) :
    Calls Tryz.prog 44 #[.slice A n c, .slice B m d] w fun e w' => e = .returned (.bool (decide (L = M))) ∧ Grows w w' := by
  have HL := hide h.wlen
  have HM := hide h'.wlen
  have HR := hide h
  have HS := hide h'
  clear h h'
  by_cases hl : n = m
  · subst hl
    go_enter Tryz.func44, Tryz.ntmps44
    go_wp2
    go_loopw [5] (fun i wr => ∃ k : Nat, k ≤ n ∧ i = .int .i64 (k : Int) ∧ (∃ x : Later w, wr = x.now) ∧ ∀ j, j < k → gn L j = gn M j) (fun i _ => n - (Go.RowKit.intOf i).toNat)
    case atStart => exact ⟨0, by omega, by go_num, ⟨⟨w, Grows.refl w⟩, rfl⟩, fun j h1 => by omega⟩
    case round =>
      obtain ⟨q, hq, rfl, ⟨x, rfl⟩, hall⟩ := hrel
      have HA := hide hall
      clear hall
      by_cases hend : n ≤ q
      · go_wp2
        go_ret
        refine ⟨ret_bool (same_true (by rw [HL.out, HM.out]) fun j hj => HA.out j (by have := HL.out; omega)).symm, GG⟩
      · obtain ⟨_, b, off, rfl, hc⟩ := HR.out.wordsH (by omega)
        have c1 := hc q (by omega)
        obtain ⟨_, b2, off2, rfl, hd⟩ := HS.out.wordsH (by omega)
        have c2 := hd q (by omega)
        clear hc hd
        by_cases he : gn L q = gn M q
        · have HE := hide he
          have hb : ((gn L q : Int) != (gn M q : Int)) = false := by rw [he]; simp
          clear he
          obtain ⟨u, hu⟩ : ∃ u, gn L q = u := ⟨_, rfl⟩
          obtain ⟨v, hv⟩ : ∃ v, gn M q = v := ⟨_, rfl⟩
          rw [hu] at c1 hb
          rw [hv] at c2 hb
          clear hu hv
          go_upto_region 6 with fail
          ((first | refine wp_region_gen2 (by kernel_rfl) (by kernel_rfl) ?_ | refine wp_region_gen (by kernel_rfl) (by kernel_rfl) ?_); (repeat' ((first | refine gLex_val0 rfl (by kernel_rfl) (fun K hK => ?_) | refine gLex_undef rfl rfl rfl (by kernel_rfl) (fun K hK => ?_) | (refine gLex_ask rfl rfl rfl ?_; first | (apply gAsk_yes; kernel_rfl; intro K hK) | ((first | apply gAsk_no1 | apply gAsk_no2); kernel_rfl; intro K hK) | (apply gAsk_part; kernel_rfl; all_goals (intro h K hK; (try simp only [Bool.not_true] at h); (try simp only [Bool.not_false] at h); (try simp only [decide_eq_true_eq] at h); (try simp only [decide_eq_false_iff_not] at h); try (exfalso; first | contradiction | omega))))) <;> (go_simp; (try (simp only [↓IntWalk.iteOmega]; try go_simp)); (try simp (disch := omega) only [IntWalk.i64_in]); (try simp (disch := omega) only [IntWalk.u64_in]); refine hK _ ?_; clear hK K))); all_goals ((apply gLex_end); intro y))
          go_wp2_with fail
          go_roundw
          case measure => simp [Go.RowKit.intOf]; omega
          case rel =>
            refine ⟨q + 1, by omega, by go_num, ⟨_, rfl⟩, fun j h1 => ?_⟩
            by_cases hj : j = q
            · rw [hj]; exact HE.out
            · exact HA.out j (by omega)
        · have HE := hide (same_false (by rw [HL.out, HM.out]) (by rw [HL.out]; omega) he)
          have hb : ((gn L q : Int) != (gn M q : Int)) = true := bne_iff_ne.2 (by omega)
          clear he
          obtain ⟨u, hu⟩ : ∃ u, gn L q = u := ⟨_, rfl⟩
          obtain ⟨v, hv⟩ : ∃ v, gn M q = v := ⟨_, rfl⟩
          rw [hu] at c1 hb
          rw [hv] at c2 hb
          clear hu hv
          go_upto_region 6 with fail
          ((first | refine wp_region_gen2 (by kernel_rfl) (by kernel_rfl) ?_ | refine wp_region_gen (by kernel_rfl) (by kernel_rfl) ?_); (repeat' ((first | refine gLex_val0 rfl (by kernel_rfl) (fun K hK => ?_) | refine gLex_undef rfl rfl rfl (by kernel_rfl) (fun K hK => ?_) | (refine gLex_ask rfl rfl rfl ?_; first | (apply gAsk_yes; kernel_rfl; intro K hK) | ((first | apply gAsk_no1 | apply gAsk_no2); kernel_rfl; intro K hK) | (apply gAsk_part; kernel_rfl; all_goals (intro h K hK; (try simp only [Bool.not_true] at h); (try simp only [Bool.not_false] at h); (try simp only [decide_eq_true_eq] at h); (try simp only [decide_eq_false_iff_not] at h); try (exfalso; first | contradiction | omega))))) <;> (go_simp; (try (simp only [↓IntWalk.iteOmega]; try go_simp)); (try simp (disch := omega) only [IntWalk.i64_in]); (try simp (disch := omega) only [IntWalk.u64_in]); refine hK _ ?_; clear hK K))); all_goals ((apply gLex_end); intro y))
          go_wp2_with fail
          go_ret
          exact ⟨ret_bool HE.out.symm, GG⟩
  · have HE : Hid (decide (L = M) = false) := by
      show _ = _
      rw [decide_eq_false_iff_not]
      rintro rfl
      exact hl (HL.out.symm.trans HM.out)
    have hb : ((n : Int) != (m : Int)) = true := bne_iff_ne.2 (by omega)
    clear hl
    go_enter Tryz.func44, Tryz.ntmps44
    go_wp2
    go_ret
    exact ⟨ret_bool HE.out.symm, GG⟩
end Go.Proofs.YtgplpgldhoelcaaGreat

namespace Go.Proofs.YtgplpgldhoelcaaGreat
open Go Go.ChangeShapes Go.WideShapes Go.ChangeAt Go.RowKit

section
variable {H : Type} {enc : TypeId × Value → H} {P : Program} {w : World} {base b0 : Nat} {held : Bool} {r : Reach} {t : TypeId} {v : Value} {d : DataW H} {p : List MemPlace}

theorem open_numsC {e : TypeId} {k : IntKind} (ht : P.underlying t = some (.slice e)) (he : P.underlying e = some (.int k)) (hc : P.cellsOf e = 1)
    (hv : Value.okWide P w r b0 t v) (h : DataW.Trod enc P w base (fun _ => true) held t v d p) :
    ∃ (A : Option Addr) (n c : Nat) (zs : List Int), v = .slice A n c ∧ n ≤ c ∧ Rd w A 1 n (zs.map (.int k)) ∧ ∀ z ∈ zs, (Lit.int k z).wf = true := by
  obtain ⟨A, n, c, zs, rfl, h1, h2⟩ := open_nums ht he hc hv h
  obtain ⟨fuel, hf⟩ := h
  rcases open_ints ht he hc hf with ⟨hcs, _⟩ | ⟨x, l, c', zs', hcs, _, hl, _⟩
  · simp [Value.cells] at hcs
    obtain ⟨rfl, rfl, rfl⟩ := hcs
    exact ⟨none, 0, 0, zs, rfl, Nat.le_refl _, h1, h2⟩
  · simp [Value.cells] at hcs
    obtain ⟨rfl, rfl, rfl⟩ := hcs
    exact ⟨_, n, c, zs, rfl, hl, h1, h2⟩
end

end Go.Proofs.YtgplpgldhoelcaaGreat

namespace Go.Proofs.YtgplpgldhoelcaaGreat
open Go Go.ChangeShapes Go.WideShapes Go.ChangeAt Go.RowKit Go.Deep
section
variable {H : Type} {enc : TypeId × Value → H} {P : Program} {w : World} {base b0 : Nat} {held : Bool} {r : Reach} {t : TypeId} {v : Value} {d : DataW H} {p : List MemPlace}
theorem open_numsF {e : TypeId} {k : IntKind} {fuel : Nat} {x : DataW H × List MemPlace} {cs : List Value} (ht : P.underlying t = some (.slice e)) (he : P.underlying e = some (.int k)) (hc : P.cellsOf e = 1)
    (h : DataW.trod enc P w base (fun _ => true) held fuel t cs = some x) :
    ∃ (A : Option Addr) (n c : Nat) (zs : List Int), cs = [.slice A n c] ∧ n ≤ c ∧ Rd w A 1 n (zs.map (.int k)) ∧ ∀ z ∈ zs, (Lit.int k z).wf = true := by
  obtain ⟨A, n, c, F, rfl, hl, _, hr, hF⟩ := open_elems ht hc (by omega) h
  have hE : ∀ i, i < n → ∃ z : Int, F i = [.int k z] ∧ (Lit.int k z).wf = true := fun i hi => by
    obtain ⟨_, m, y, hy⟩ := hF i hi
    obtain ⟨z, hz, _, hw⟩ := DataW.trod_int he hy
    exact ⟨z, hz, hw⟩
  obtain ⟨f, hf⟩ := Deep.choose_lt (α := Option Int) (p := fun i o => ∃ z, o = some z ∧ F i = [.int k z] ∧ (Lit.int k z).wf = true) (fun i hi => by obtain ⟨z, h⟩ := hE i hi; exact ⟨some z, z, rfl, h⟩)
  have hf' : ∀ i, i < n → F i = [.int k ((f i).getD 0)] ∧ (Lit.int k ((f i).getD 0)).wf = true := fun i hi => by
    obtain ⟨z, h1, h2⟩ := hf i hi
    rw [h1]
    exact h2
  refine ⟨A, n, c, (List.range n).map fun i => (f i).getD 0, rfl, hl, ?_, fun z hz => ?_⟩
  · have e : ((List.range n).map fun i => (f i).getD 0).map (Value.int k) = (List.range n).flatMap F := by
      rw [List.map_map, List.flatMap_def]
      have h2 : (List.range n).map F = (List.range n).map fun i => [Value.int k ((f i).getD 0)] := List.map_congr_left fun i hi => (hf' i (List.mem_range.1 hi)).1
      rw [h2, ← List.flatMap_def]
      clear h2 hr hF hE hf hf' h
      generalize List.range n = l
      induction l with
      | nil => rfl
      | cons a l ih => rw [List.map_cons, List.flatMap_cons, ih]; rfl
    rw [e]
    exact hr
  · obtain ⟨i, hi, rfl⟩ := List.mem_map.1 hz
    exact (hf' i (List.mem_range.1 hi)).2
end
end Go.Proofs.YtgplpgldhoelcaaGreat

namespace Go.Proofs.YtgplpgldhoelcaaGreat
open Go Go.RowKit
section
variable {P : Program} {w0 : World} {ops : Array Oper} {Q : Act → Env → Prop} {a : Act} {G : Env} {o : Oper} {rest : List Oper}
def depB2 (ops : Array Oper) (o : Oper) (G : Env) (t1 t2 : Tmp) : Bool :=
  ((o.looksAt ops).all fun t => t == t1 || t == t2 || (G t).isNone) && (o.looksAt ops).contains t1 && (o.looksAt ops).contains t2 && (match o.dst with | some d => (G d).isNone | none => true) && (match o.op with | .select .. => false | _ => true) &&
    (match o.guard with | some (g, _) => (match (ops[g]?).bind (·.dst) with | some t => t != t1 && t != t2 | none => true) | none => true)
theorem dep_spec2 {t1 t2 : Tmp} (h : depB2 ops o G t1 t2 = true) : guardFree ops o G ∧ dstFree o G ∧ (∀ t ∈ o.looksAt ops, t = t1 ∨ t = t2 ∨ G t = none) ∧ t1 ∈ o.looksAt ops ∧ t2 ∈ o.looksAt ops ∧ ∀ cs b, o.op ≠ .select cs b := by
  unfold depB2 at h
  simp only [Bool.and_eq_true, List.all_eq_true, Bool.or_eq_true, Option.isNone_iff_eq_none, beq_iff_eq, List.contains_iff_mem] at h
  obtain ⟨⟨⟨⟨⟨h1, h2⟩, h2'⟩, h3⟩, h4⟩, h5⟩ := h
  refine ⟨fun g b t e1 e2 => ?_, fun d e => ?_, fun t ht => (by rcases h1 t ht with (e | e) | e; exact .inl e; exact .inr (.inl e); exact .inr (.inr e)), h2, h2', fun cs b e => ?_⟩
  · rcases h1 t (mem_looks_guard e1 e2) with (e | e) | e
    · rw [e1] at h5
      simp only [e2] at h5
      subst e
      simp at h5
    · rw [e1] at h5
      simp only [e2] at h5
      subst e
      simp at h5
    · exact e
  · rw [e] at h3; simpa using h3
  · rw [e] at h4; simp at h4
theorem dep_exec2 {a' : Act} {t1 t2 : Tmp} {v1 v2 : Value} (h5 : ∀ cs b, o.op ≠ .select cs b) (ht1 : t1 < a.tmps.size) (ht2 : t2 < a.tmps.size) (hne : t1 ≠ t2) (hv1 : a'.tmps[t1]? = some v1) (hv2 : a'.tmps[t2]? = some v2) (h : ∀ t ∈ o.looksAt ops, t = t1 ∨ t = t2 ∨ a'.tmps[t]? = a.tmps[t]?) :
    execOp a'.eval o = execOp ((a.put (some t1) v1).put (some t2) v2).eval o := by
  refine execOp_congr o h5 fun x hx => ?_
  cases x with
  | tmp t =>
    have ht : t ∈ o.looksAt ops := List.mem_append_left _ (List.mem_filterMap.2 ⟨.tmp t, by simpa using hx, rfl⟩)
    have h' : a'.tmps[t]? = ((a.put (some t1) v1).put (some t2) v2).tmps[t]? := by
      by_cases e2 : t = t2
      · subst e2
        rw [hv2]
        simp [Act.put, ht2]
      · by_cases e : t = t1
        · subst e
          rw [hv1]
          show some v1 = (((a.tmps.setIfInBounds t v1).setIfInBounds t2 v2))[t]?
          rw [Array.getElem?_setIfInBounds_ne (Ne.symm e2)]
          simp [ht1]
        · rw [((h t ht).resolve_left e).resolve_left e2]
          simp [Act.put, Array.getElem?_setIfInBounds_ne (Ne.symm e), Array.getElem?_setIfInBounds_ne (Ne.symm e2)]
    simp only [Act.eval, Array.getD_eq_getD_getElem?, h']
  | _ => rfl
theorem gLex_depV2 {t1 t2 : Tmp} {p1 p2 : Pr} (hw : Region.wanted o (yielded ops a.tmps) = true) (hp : depB2 ops o G t1 t2 = true) (h1 : G t1 = some p1) (h2 : G t2 = some p2) (ht1 : t1 < a.tmps.size) (ht2 : t2 < a.tmps.size) (hne : t1 ≠ t2) (v : Value)
    (hr : ∀ (x : Later w0) (u1 u2 : Value), p1 u1 x.now → p2 u2 x.now → runsTo P (fun u' w' => Grows x.now w' ∧ u' = v) ((execOp ((a.put (some t1) u1).put (some t2) u2).eval o).run P x.now))
    (h : gLex P ops w0 Q rest (a.put o.dst v) G) : gLex P ops w0 Q (o :: rest) a G := by
  obtain ⟨k1, k2, k3, k4, k4', k5⟩ := dep_spec2 hp
  refine ⟨.inl v, ⟨k1, k2, .inl ⟨hw, trivial, trivial, fun w hw a' ha' => ?_⟩⟩, ?_⟩
  · have hv1 := ha' t1 k4
    have hv2 := ha' t2 k4'
    unfold relAt at hv1 hv2
    rw [h1] at hv1
    rw [h2] at hv2
    obtain ⟨u1, hv1, hp1⟩ := hv1
    obtain ⟨u2, hv2, hp2⟩ := hv2
    rw [dep_exec2 k5 ht1 ht2 hne hv1 hv2 (fun t ht => (k3 t ht).imp id (fun e => e.imp id (fun e => by
      have h6 := ha' t ht
      unfold relAt at h6
      rw [e] at h6
      exact h6)))]
    exact hr ⟨w, hw⟩ u1 u2 hp1 hp2
  · have : putG G o.dst (.inl v) = G := by cases o.dst <;> rfl
    rw [this]
    exact h
end
end Go.Proofs.YtgplpgldhoelcaaGreat

namespace Go.Proofs.YtgplpgldhoelcaaGreat
open Go Go.ChangeShapes Go.WideShapes Go.ChangeAt Go.RowKit Go.Deep
def hrIn (w : World) (r : HR) : Prop := (Rd w r.A 1 r.n (r.xs.map (.int .i64)) ∧ r.n ≤ r.c) ∧ (∀ z ∈ r.xs, I64 z) ∧ U64 r.w
section
variable {H : Type} {enc : TypeId × Value → H} {P : Program} {w : World} {base b0 : Nat} {held : Bool} {r : Reach} {t : TypeId} {v : Value} {d : DataW H} {p : List MemPlace}
theorem open_routes {te ei : TypeId} {f0 f1 : Field} (ht : P.underlying t = some (.slice te)) (hs : P.underlying te = some (.struct #[f0, f1]))
    (h0 : P.underlying f0.type = some (.slice ei)) (h1 : P.underlying f1.type = some (.int .u64)) (hi : P.underlying ei = some (.int .i64)) (hci : P.cellsOf ei = 1) (ho : f0.offset = 0 ∧ f1.offset = 1)
    (hcs : P.cellsOf f0.type = 1 ∧ P.cellsOf f1.type = 1) (hc : P.cellsOf te = 2)
    (hv : Value.okWide P w r b0 t v) (h : DataW.Trod enc P w base (fun _ => true) held t v d p) :
    ∃ (A : Option Addr) (n c : Nat) (R : List HR), v = .slice A n c ∧ n ≤ c ∧ HadAt w A n R ∧ ∀ x ∈ R, hrIn w x := by
  obtain ⟨A, n, c, rfl⟩ := okWide_slice ht hv
  obtain ⟨fuel, hf⟩ := h
  obtain ⟨A', n', c', F, hcs', hl, _, hr, hF⟩ := open_elems ht hc (by omega) hf
  simp [Value.cells] at hcs'
  obtain ⟨rfl, rfl, rfl⟩ := hcs'
  have hE : ∀ i, i < n → ∃ e : HR, F i = hrC e ∧ hrIn w e := fun i hi' => by
    obtain ⟨hlen, m, y, hy⟩ := hF i hi'
    obtain ⟨y0, y1, k, _, _, e0, e1⟩ := trod_struct2 hs hy
    rw [ho.1, hcs.1] at e0
    rw [ho.2, hcs.2] at e1
    obtain ⟨c0, c1, hFi⟩ : ∃ c0 c1, F i = [c0, c1] := by
      match F i, hlen with
      | [c0, c1], _ => exact ⟨c0, c1, rfl⟩
    rw [hFi] at e0 e1 ⊢
    obtain ⟨B, nb, cb, zs, ha, hnb, hrd, hw⟩ := open_numsF h0 hi hci e0
    obtain ⟨b, hb, _, wb⟩ := DataW.trod_int h1 e1
    simp at ha hb
    subst ha hb
    exact ⟨⟨B, nb, cb, zs, b⟩, rfl, ⟨hrd, hnb⟩, fun z hz => wf_i64 (hw z hz), wf_u64 wb⟩
  obtain ⟨f, hf⟩ := Deep.choose_lt (α := Option HR) (p := fun i o => ∃ e, o = some e ∧ F i = hrC e ∧ hrIn w e) (fun i hi => by obtain ⟨e, h⟩ := hE i hi; exact ⟨some e, e, rfl, h⟩)
  let f' : Nat → HR := fun i => (f i).getD ⟨none, 0, 0, [], 0⟩
  have hf' : ∀ i, i < n → F i = hrC (f' i) ∧ hrIn w (f' i) := fun i hi => by
    obtain ⟨e, h1, h2⟩ := hf i hi
    simp only [f', h1, Option.getD_some]
    exact h2
  have hin : ∀ x ∈ (List.range n).map f', hrIn w x := fun x hx => by
    obtain ⟨k, hk, rfl⟩ := List.mem_map.1 hx
    exact (hf' k (List.mem_range.1 hk)).2
  refine ⟨A, n, c, (List.range n).map f', rfl, hl, ⟨?_, fun x hx => (hin x hx).1⟩, hin⟩
  have e : ((List.range n).map f').flatMap hrC = (List.range n).flatMap F := by
    rw [List.flatMap_map, List.flatMap_def, List.flatMap_def]
    exact congrArg List.flatten (List.map_congr_left fun i hi => ((hf' i (List.mem_range.1 hi)).1).symm)
  rw [e]
  exact hr
end
end Go.Proofs.YtgplpgldhoelcaaGreat

namespace Go.Proofs.YtgplpgldhoelcaaGreat
open Go Go.RowKit
attribute [local go_sem] Oper.semAt_some
def hW (H : List HR) : List Nat := H.map fun r => r.w.toNat
theorem hW_take (H : List HR) (k : Nat) (hk : k < H.length) : (hW H).take (k + 1) = (hW H).take k ++ [(gh H k).w.toNat] := by
  have : k < (hW H).length := by simpa [hW] using hk
  rw [List.take_succ_eq_append_getElem this]
  simp [hW, gh, hk]
def whW (E : List Edg) (H : List HR) : List Nat := eW E ++ hW H
theorem whW_lt {w : World} {E : List Edg} {H : List HR} (hE : ∀ k, k < E.length → edgOk (ge E k)) (hH : ∀ x ∈ H, hrIn w x) (i : Nat) : gn (whW E H) i < 18446744073709551616 := by
  have key : ∀ x ∈ whW E H, x < 18446744073709551616 := fun x hx => by
    rcases List.mem_append.1 hx with hx | hx
    · obtain ⟨e, he, rfl⟩ := List.mem_map.1 hx
      obtain ⟨k, hk, rfl⟩ := List.getElem_of_mem he
      have h1 := (hE k hk).2.2
      have : ge E k = E[k] := by simp [ge, hk]
      rw [this] at h1
      unfold U64 at h1
      omega
    · obtain ⟨r, hr, rfl⟩ := List.mem_map.1 hx
      have h1 := (hH r hr).2.2
      unfold U64 at h1
      omega
  by_cases hi : i < (whW E H).length
  · refine key _ ?_
    unfold gn
    rw [List.getD_eq_getElem?_getD, List.getElem?_eq_getElem hi]
    exact List.getElem_mem hi
  · unfold gn
    rw [List.getD_eq_getElem?_getD, List.getElem?_eq_none (by omega)]
    decide
set_option maxRecDepth 40000 in
set_option maxHeartbeats 16000000 in
theorem penWhysW (N : Int) (A : Option Addr) (n c : Nat) (E : List Edg) (s t : Int) (A3 : Option Addr) (n3 c3 : Nat) (l : List Int) (A4 : Option Addr) (n4 c4 : Nat) (H : List HR) (o : PO) (w : World) (_ : I64 N) (_ : n ≤ c) (h : Rd w A 3 n (esCells E)) (hedg : ∀ k, k < n → edgOk (ge E k)) (_ : I64 s) (_ : I64 t)
    (hlc : n3 ≤ c3) (hl : Rd w A3 1 n3 (l.map (.int .i64))) (hwf : ∀ z ∈ l, (Lit.int .i64 z).wf = true) (_ : n4 ≤ c4) (hh : HadAt w A4 n4 H) (hin : ∀ x ∈ H, hrIn w x) (ho : poIn o) :
    Calls Tryz.prog 9 #[.agg #[.int .i64 N, .slice A n c], .int .i64 s, .int .i64 t, .slice A3 n3 c3, .slice A4 n4 c4, poV o] w fun e w' => e = .returned (.bool true) ∧ Grows w w' := by
  have C5 := hide (fun (W : World) => alive32 W)
  have C6 := hide (fun (W : World) => lLight32 N A n c o W)
  have C7 := hide (fun (W : World) => law32Of o W)
  obtain ⟨hk1, hk2, ⟨u1, u1'⟩, ⟨u2, u2'⟩, ⟨u3, u3'⟩, ⟨u4, u4'⟩⟩ := ho
  have hll : l.length = n3 := by simpa using hl.len
  have hHl : H.length = n4 := hh.len
  obtain rfl : E.length = n := h.elen
  by_cases hno : lightP N E.length o.r = false ∨ 40 < n3 ∨ 12 < n4
  · clear h hl hh hin hedg hll hHl hwf
    generalize E.length = n at *
    obtain ⟨ok_, or_, f1, f2, a1, a2, e1, e2, g1, g2⟩ := o
    unfold poV at C6 ⊢
    dsimp only at C6 hno ⊢
    have hcs : lightP N n or_ = false ∨ (lightP N n or_ = true ∧ 40 < n3) ∨ (lightP N n or_ = true ∧ n3 ≤ 40 ∧ 12 < n4) := by
      cases e : lightP N n or_ with
      | false => exact .inl rfl
      | true =>
        rw [e] at hno
        rcases hno with h | h | h
        · cases h
        · exact .inr (.inl ⟨rfl, h⟩)
        · rcases Nat.lt_or_ge 40 n3 with h2 | h2
          · exact .inr (.inl ⟨rfl, h2⟩)
          · exact .inr (.inr ⟨rfl, h2, h⟩)
    clear hno
    generalize lightP N n or_ = lp at *
    rcases hcs with rfl | ⟨rfl, h1⟩ | ⟨rfl, h1, h2⟩
    all_goals
      go_enter Tryz.func9, Tryz.ntmps9
      go_wp2_with (first | (go_at_call 33; refine (C6.out _).mono ?_; rintro e w' ⟨rfl, hg⟩; (first | obtain ⟨x, rfl⟩ := Grows.later2 hg | obtain ⟨x, rfl⟩ := Grows.later hg); clear hg) | (go_at_call 34; refine (C5.out _).mono ?_; rintro e w' ⟨rfl, hg⟩; (first | obtain ⟨x, rfl⟩ := Grows.later2 hg | obtain ⟨x, rfl⟩ := Grows.later hg); clear hg))
      go_ret
      exact ⟨rfl, GG⟩
  · have hlp : lightP N E.length o.r = true := by
      cases e : lightP N E.length o.r with
      | false => exact absurd (.inl e) hno
      | true => rfl
    have h40 : n3 ≤ 40 := by
      rcases Nat.lt_or_ge 40 n3 with h2 | h2
      · exact absurd (.inr (.inl h2)) hno
      · exact h2
    have h12 : n4 ≤ 12 := by
      rcases Nat.lt_or_ge 12 n4 with h2 | h2
      · exact absurd (.inr (.inr h2)) hno
      · exact h2
    clear hno
    rw [hlp] at C6
    have hlt := lightP_of hlp
    clear hlp
    have hE40 := hlt.2.1
    subst hll hHl
    have hi64 : ∀ j, j < l.length → I64 (gi l j) := fun j hj => by
      have hm : gi l j ∈ l := by simp [gi, hj]
      exact wf_i64 (hwf _ hm)
    have HW := hide (show (∀ x ∈ H, x.n ≤ 40) → ∃ z : Int,
        (∀ X, Grows w X → Calls Tryz.prog 42 #[.agg #[.int .i64 N, .slice A E.length c], .int .i64 s, .int .i64 t, .slice A3 l.length c3, .slice A4 H.length c4, poV o] X fun e w' => e = .returned (.int .i64 z) ∧ Grows X w') ∧
        (∀ X, Grows w X → Calls Tryz.prog 43 #[.agg #[.int .i64 N, .slice A E.length c], .int .i64 s, .int .i64 t, .slice A3 l.length c3, .slice A4 H.length c4, poV o] X fun e w' => e = .returned (.int .i64 z) ∧ Grows X w') from fun hall => by
      obtain ⟨p, f, r, hp⟩ := isPath_any E (freeO []) N s t (by show 0 ≤ _; omega) (by show 0 ≤ _; omega)
      have hf : f < 18446744073709551616 := by
        have h1 := hp.short.2
        have h2 : farV < 18446744073709551616 := by decide
        omega
      obtain ⟨ts, hts⟩ := why_two N s t A c E o p f r w h (by omega) hp hf u1 u2 u3 u4 u2'
      have hw : ∀ X, Grows w X → WayIn X A3 c3 l A4 H := fun X g => ⟨hl.grows g, by omega, hlc, hi64, hh.grows g, by omega, fun x hx => by
        have h1 := hall x hx
        refine ⟨by omega, fun j hj => ?_⟩
        have h2 := hin x hx
        have h3 : x.xs.length = x.n := by simpa using h2.1.1.len
        have hm : gi x.xs j ∈ x.xs := by simp [gi, show j < x.xs.length by omega]
        exact h2.2.1 _ hm⟩
      exact ⟨whyV N s t E l H o f r (ts l), fun X g => (hts X g A3 c3 l A4 c4 H (hw X g)).1, fun X g => (hts X g A3 c3 l A4 c4 H (hw X g)).2⟩)
    have hwl : (whW E H).length = E.length + H.length := by simp [whW, eW, hW]
    have hwb := whW_lt hedg hin
    have hml : (raiseL (whW E H) l o.f1 o.f2).length ≤ 1000000 := by rw [raiseL_len, hwl]; omega
    have CR := hide (fun (X : World) (g : Grows w X) (Aw : Option Addr) (cw : Nat) (h1 : Rd X Aw 1 (E.length + H.length) (wv (whW E H))) => show Calls Tryz.prog 45 #[.slice Aw (E.length + H.length) cw, .slice A3 l.length c3, .agg #[.int .u64 o.f1, .int .u64 o.f2]] X (GiveU X (raiseL (whW E H) l o.f1 o.f2)) from
      penRaise Aw _ cw (whW E H) A3 _ c3 l o.f1 o.f2 X h1 (by omega) (hl.grows g) (by omega) hwb)
    have CQ := hide (fun (X : World) (g : Grows w X) (Aw : Option Addr) (cw : Nat) (h1 : Rd X Aw 1 (E.length + H.length) (wv (whW E H))) => show Calls Tryz.prog 46 #[.slice Aw (E.length + H.length) cw, .slice A3 l.length c3, .agg #[.int .u64 o.f1, .int .u64 o.f2]] X (GiveU X (raiseL (whW E H) l o.f1 o.f2)) from
      r32Raise Aw _ cw (whW E H) A3 _ c3 l o.f1 o.f2 X h1 (by omega) (hl.grows g) (by omega) hwb u1)
    generalize raiseL (whW E H) l o.f1 o.f2 = M at *
    have CE := hide (fun (X : World) (B1 B2 : Option Addr) (d1 d2 : Nat) (h1 : Own X 0 41 1 B1 M.length d1 (wv M)) (h2 : Own X 0 41 1 B2 M.length d2 (wv M)) => show Calls Tryz.prog 44 #[.slice B1 M.length d1, .slice B2 M.length d2] X fun e w' => e = .returned (.bool true) ∧ Grows X w' from by
      have hq := r1Wide B1 _ d1 M B2 _ d2 M X h1.rd h2.rd hml hml
      rwa [decide_eq_true rfl] at hq)
    have HE := hide (fun (k : Nat) (hk : k < E.length) => show (ge E k).w = ((ge E k).w.toNat : Int) from by
      have := (hedg k hk).2.2
      unfold U64 at this
      omega)
    have HHW := hide (fun (k : Nat) (hk : k < H.length) => show (gh H k).w = ((gh H k).w.toNat : Int) from by
      have := (hin _ (gh_mem hk)).2.2
      unfold U64 at this
      omega)
    have HT1 := hide (fun k hk => eW_take E k hk)
    have HT2 := hide (fun k hk => hW_take H k hk)
    have HEW := hide (show (eW E).take E.length = eW E from List.take_of_length_le (by simp [eW]))
    have HHT := hide (show (hW H).take H.length = hW H from List.take_of_length_le (by simp [hW]))
    have HALL := hide (fun (hk : ∀ k, k < H.length → (gh H k).n ≤ 40) => show ∀ x ∈ H, x.n ≤ 40 from fun x hx => by
      obtain ⟨k, hk2, rfl⟩ := List.getElem_of_mem hx
      have := hk k hk2
      have e : gh H k = H[k] := by simp [gh, hk2]
      rwa [e] at this)
    have HG := hide h
    have HH := hide hh
    have hH12 : H.length ≤ 12 := h12
    have hL40 : l.length ≤ 40 := h40
    clear h hh hin hedg hl hwf hi64 hwl hwb hlt u1 u1' u2 u2' u3 u3' u4 u4' hk1 hk2 hml h12 h40
    generalize hn : E.length = n at *
    generalize hq : H.length = q at *
    generalize l.length = n3 at *
    clear hn hq
    obtain ⟨ok_, or_, f1, f2, a1, a2, e1, e2, g1, g2⟩ := o
    unfold poV at C6 C7 HW ⊢
    dsimp only at C6 C7 HW CR CQ ⊢
    go_enter Tryz.func9, Tryz.ntmps9
    go_upto_region 1 with fail
    obtain ⟨w0, hw0⟩ : ∃ W, W = (w.alloc (.cells #[.int .i64 N, .slice A n c] 35)).alloc (.cells #[.int .i64 ok_, .int .i64 or_, .int .u64 f1, .int .u64 f2, .int .u64 a1, .int .u64 a2, .int .u64 e1, .int .u64 e2, .int .u64 g1, .int .u64 g2] 73) := ⟨_, rfl⟩
    have hg0 : Grows w w0 := by rw [hw0]; exact ((Grows.refl _).new _).new _
    have a4 : Arr w0 w.heap.size 35 [.int .i64 N, .slice A n c] := by rw [hw0]; exact (Arr.make w _ _).grow ((Grows.refl _).new _)
    have a7 : Arr w0 (w.heap.size + 1) 73 [.int .i64 ok_, .int .i64 or_, .int .u64 f1, .int .u64 f2, .int .u64 a1, .int .u64 a2, .int .u64 e1, .int .u64 e2, .int .u64 g1, .int .u64 g2] := by
      rw [hw0]
      have h := Arr.make (w.alloc (.cells #[.int .i64 N, .slice A n c] 35)) [.int .i64 ok_, .int .i64 or_, .int .u64 f1, .int .u64 f2, .int .u64 a1, .int .u64 a2, .int .u64 e1, .int .u64 e2, .int .u64 g1, .int .u64 g2] 73
      have e : (w.alloc (.cells #[.int .i64 N, .slice A n c] 35)).heap.size = w.heap.size + 1 := by simp
      rwa [e] at h
    rw [← hw0]
    clear hw0
    generalize w.heap.size + 1 = b7 at *
    obtain ⟨b4, hb4⟩ : ∃ b, b = w.heap.size := ⟨_, rfl⟩
    rw [← hb4] at a4 ⊢
    clear hb4
    have m6 := a7.mine 6 rfl
    have m7 := a7.mine 7 rfl
    have m8 := a7.mine 8 rfl
    have m9 := a7.mine 9 rfl
    have HG := hide (HG.out.grows hg0)
    have HH := hide (HH.out.grows hg0)
    go_wp2_with (go_at_call 33; refine (C6.out _).mono ?_; rintro e w' ⟨rfl, hg⟩; obtain ⟨x1, rfl⟩ := hg.later; clear hg)
    go_loopw [13, 14] (fun out iv wr => ∃ k : Nat, k ≤ n ∧ iv = .int .i64 (k : Int) ∧ ∃ y : Later x1.now, wr = y.now ∧ ∃ A' c', out = .slice A' k c' ∧ Own y.now x1.now.heap.size 41 1 A' k c' (wv ((eW E).take k))) (fun _ iv _ => n - (Go.RowKit.intOf iv).toNat)
    case atStart => exact ⟨0, by omega, by go_num, ⟨_, Grows.refl _⟩, rfl, none, 0, by go_num, Own.nil _ _ _ _⟩
    case round =>
      obtain ⟨k, hk, rfl, y, rfl, A', c', rfl, hown⟩ := hrel
      have HO := hide hown
      clear hown
      by_cases hend : n ≤ k
      · obtain rfl : k = n := by omega
        have HO := hide (show Own y.now x1.now.heap.size 41 1 A' k c' (wv (eW E)) from by have := HO.out; rwa [HEW.out] at this)
        clear hend hk
        go_wp2_with fail
        go_loopw [13, 15] (fun out iv wr => ∃ j : Nat, j ≤ q ∧ iv = .int .i64 (j : Int) ∧ ∃ y : Later x1.now, wr = y.now ∧ Hid (∀ i, i < j → (gh H i).n ≤ 40) ∧ ∃ A' c', out = .slice A' (k + j) c' ∧ Own y.now x1.now.heap.size 41 1 A' (k + j) c' (wv (eW E ++ (hW H).take j))) (fun _ iv _ => q - (Go.RowKit.intOf iv).toNat)
        case atStart => exact ⟨0, by omega, by go_num, y, rfl, hide (fun i hi => absurd hi (by omega)), A', c', by go_num, by have := HO.out; simpa using this⟩
        case round =>
          obtain ⟨j, hj, rfl, y, rfl, HN, A', c', rfl, hown⟩ := hrel
          have HO := hide hown
          clear hown
          by_cases hend : j < q
          · obtain ⟨bH, oH, rfl, hcs⟩ := HH.out.at_ (by omega)
            obtain ⟨hc1, hc2⟩ := hcs j hend
            clear hcs
            have HWJ := hide (HHW.out j hend)
            have HTJ := hide (HT2.out j hend)
            by_cases hbig : 40 < (gh H j).n
            · generalize gh H j = gj at *
              obtain ⟨Aj, nj, cj, xj, wj⟩ := gj
              dsimp only at hc1 hc2 hbig
              go_wp2_with (go_at_call 34; refine (C5.out _).mono ?_; rintro e w' ⟨rfl, hg⟩; obtain ⟨x5, rfl⟩ := hg.later; clear hg)
              go_ret
              exact ⟨rfl, hg0.trans GG⟩
            · have HN2 := hide (show ∀ i, i < j + 1 → (gh H i).n ≤ 40 from fun i hi => by
                rcases Nat.lt_or_ge i j with h1 | h1
                · exact HN.out i h1
                · have : i = j := by omega
                  subst this
                  omega)
              rw [HWJ.out] at hc2
              clear HWJ
              generalize hv : (gh H j).w.toNat = v at *
              clear hv
              generalize (gh H j).A = Aj at *
              generalize (gh H j).n = nj at *
              generalize (gh H j).c = cj at *
              go_wp2_with (at_builtin; refine wp_app1 elemU64.elem rfl _ _ rfl _ GG (k + j) c' A' _ rfl (HO.out.grows GG) _ _ _ rfl inferInstance rfl (by omega) ?_; intro A9 c9 y9 hown9; have HO9 := hide hown9; clear hown9)
              go_roundw
              case measure => simp [Go.RowKit.intOf]; omega
              case rel =>
                refine ⟨j + 1, by omega, by go_num, y9, rfl, HN2, A9, c9, rfl, ?_⟩
                rw [HTJ.out]
                have := HO9.out
                simpa [wv, Nat.add_assoc] using this
          · obtain rfl : q = j := by omega
            have hwv : eW E ++ (hW H).take q = whW E H := by rw [HHT.out]; rfl
            have HO := hide (show Rd y.now A' 1 (k + q) (wv (whW E H)) from by have := HO.out.rd; rwa [hwv] at this)
            obtain ⟨z, hz1, hz2⟩ := HW.out (HALL.out HN.out)
            have HZ1 := hide hz1
            have HZ2 := hide hz2
            have hgy : Grows w y.now := hg0.trans GG
            have hzz : (z == z) = true := by simp
            clear hz1 hz2 HW HALL HN hwv HT1 HT2 HEW HHT HE HHW HG HH
            go_wp2_with fail
            refine wp_region_gen (by kernel_rfl) (by kernel_rfl) ?_
            (repeat' ((first | refine gLex_val0 rfl (by kernel_rfl) (fun K hK => ?_) | refine gLex_undef rfl rfl rfl (by kernel_rfl) (fun K hK => ?_) | (refine gLex_ask rfl rfl rfl ?_; first | (apply gAsk_yes; kernel_rfl; intro K hK) | ((first | apply gAsk_no1 | apply gAsk_no2); kernel_rfl; intro K hK))) <;> (go_simp; (try (simp only [↓IntWalk.iteOmega]; try go_simp)); (try simp (disch := omega) only [IntWalk.i64_in]); (try simp (disch := omega) only [IntWalk.u64_in]); first | (refine hK _ ?_; clear hK K) | (apply Exists.intro; refine ⟨fun x => ?_, hK _ ?_⟩; (first | (go_at_call 42; exact HZ1.out _ (hgy.trans GG)) | (go_at_call 37; exact C7.out _) | (go_at_call 43; exact HZ2.out _ (hgy.trans GG))); clear hK K))))
            refine gLex_propG (by kernel_rfl) (by kernel_rfl) rfl (by simp) (WtP 0 M) (WtP.lasts _ _) (fun x => by
              go_simp
              refine (CR.out _ (hgy.trans GG) _ _ (HO.out.grows GG)).mono ?_
              rintro e w' ⟨A9, c9, rfl, ho, hg⟩
              exact ⟨_, rfl, hg, A9, c9, rfl, ho.base (Nat.zero_le _)⟩) ?_
            (repeat' ((first | refine gLex_val0 rfl (by kernel_rfl) (fun K hK => ?_) | refine gLex_undef rfl rfl rfl (by kernel_rfl) (fun K hK => ?_) | (refine gLex_ask rfl rfl rfl ?_; first | (apply gAsk_yes; kernel_rfl; intro K hK) | ((first | apply gAsk_no1 | apply gAsk_no2); kernel_rfl; intro K hK))) <;> (go_simp; (try (simp only [↓IntWalk.iteOmega]; try go_simp)); (try simp (disch := omega) only [IntWalk.i64_in]); (try simp (disch := omega) only [IntWalk.u64_in]); refine hK _ ?_; clear hK K)))
            refine gLex_propG (by kernel_rfl) (by kernel_rfl) rfl (by simp) (WtP 0 M) (WtP.lasts _ _) (fun x => by
              go_simp
              refine (CQ.out _ (hgy.trans GG) _ _ (HO.out.grows GG)).mono ?_
              rintro e w' ⟨A9, c9, rfl, ho, hg⟩
              exact ⟨_, rfl, hg, A9, c9, rfl, ho.base (Nat.zero_le _)⟩) ?_
            refine gLex_depV2 (t1 := 90) (t2 := 95) (by kernel_rfl) (by kernel_rfl) rfl rfl (by simp) (by simp) (by decide) (.bool true) (fun x u1 u2 h1 h2 => by
              obtain ⟨B1, d1, rfl, k1⟩ := h1
              obtain ⟨B2, d2, rfl, k2⟩ := h2
              go_simp
              exact CE.out _ _ _ _ _ k1 k2) ?_
            simp only [Act.put, List.setIfInBounds_toArray, List.set_cons_zero, List.set_cons_succ]
            (repeat' ((first | refine gLex_val0 rfl (by kernel_rfl) (fun K hK => ?_) | refine gLex_undef rfl rfl rfl (by kernel_rfl) (fun K hK => ?_) | (refine gLex_ask rfl rfl rfl ?_; first | (apply gAsk_yes; kernel_rfl; intro K hK) | ((first | apply gAsk_no1 | apply gAsk_no2); kernel_rfl; intro K hK))) <;> (go_simp; (try (simp only [↓IntWalk.iteOmega]; try go_simp)); (try simp (disch := omega) only [IntWalk.i64_in]); (try simp (disch := omega) only [IntWalk.u64_in]); first | (refine hK _ ?_; clear hK K) | (apply Exists.intro; refine ⟨fun x => ?_, hK _ ?_⟩; (first | (go_at_call 34; exact C5.out _)); clear hK K))))
            refine gLex_endB (fun x8 => ?_)
            refine AtB.pop rfl (by simp [Act.put]) (fun z1 _ => ?_)
            refine AtB.pop rfl (by simp [Act.put]) (fun z2 _ => ?_)
            refine AtB.base ?_
            simp only [Act.put, List.setIfInBounds_toArray, List.set_cons_zero, List.set_cons_succ]
            go_wp2_with fail
            go_ret
            exact ⟨rfl, hgy.trans GG⟩
      · obtain ⟨b2, off2, rfl, hc2⟩ := HG.out.edgesH (by omega)
        obtain ⟨d2, d3, d4⟩ := hc2 k (by omega)
        have HT := hide (HT1.out k (by omega))
        rw [HE.out k (by omega)] at d4
        clear hc2
        generalize (ge E k).w.toNat = v at *
        generalize (ge E k).f = f at *
        generalize (ge E k).t = tt at *
        go_wp2_with (at_builtin; refine wp_app1 elemU64.elem rfl _ _ rfl _ GG k c' A' _ rfl (HO.out.grows GG) _ _ _ rfl inferInstance rfl (by omega) ?_; intro A9 c9 y9 hown9; have HO9 := hide hown9; clear hown9)
        go_roundw
        case measure => simp [Go.RowKit.intOf]; omega
        case rel =>
          refine ⟨k + 1, by omega, by go_num, y9, rfl, A9, c9, rfl, ?_⟩
          rw [HT.out]
          have := HO9.out
          simpa [wv] using this
end Go.Proofs.YtgplpgldhoelcaaGreat

namespace Go.Proofs.YtgplpgldhoelcaaGreat.lawPenWhys
open Go Go.ChangeShapes Go.WideShapes Go.ChangeAt Go.RowKit Go.Proofs.YtgplpgldhoelcaaGreat

theorem own : ownKnob Tryz.prog.godebug = none := by kernel_rfl
theorem laidOut : laidOutB Tryz.prog = true := by kernel_rfl

set_option maxRecDepth 100000 in
theorem lifted (os : Os) (started : os.Started) (H : Type) (enc : TypeId × Value → H) :
    ReturnsInHanded {} Tryz.checked os 9 .any (Rows.penWhysSpec.pre6 enc Tryz.prog Tryz.f9 Rows.penWhysRow.domain false) (Rows.penWhysSpec.post enc Tryz.prog Tryz.f9 false true false false) := by
  refine returnsInHanded_of_change (C := Tryz.checked) own started (by kernel_rfl) Tryz.func9
    (ChangeSpec.witness6 (enc := enc) (C := Tryz.checked) false ⟨#[], #[.agg #[.int .i64 0, .slice none 0 0], .int .i64 0, .int .i64 0, .slice none 0 0, .slice none 0 0, .agg #[.int .i64 0, .int .i64 0, .int .u64 0, .int .u64 0, .int .u64 0, .int .u64 0, .int .u64 0, .int .u64 0, .int .u64 0, .int .u64 0]], []⟩ 8 (by kernel_rfl) (by kernel_rfl) (by kernel_rfl) (by kernel_rfl)) ?_
  intro W base args ds gs before hval0 hW hcnd _
  have hval : ∀ (j : Nat) t v, Tryz.f9.params[j]? = some t → args[j]? = some v → Value.okWide Tryz.prog W .any base t v := hval0
  have hW' := hW
  obtain ⟨p, q, hA0, hV, rfl, hfz, hnd⟩ := hW
  have hA : DataW.TrodAll enc Tryz.prog W 0 (fun _ => true) true Tryz.f9.params.toList args.toList ds p := hA0
  rw [Tryz.params9] at hA hval
  obtain ⟨v0, vs0, d0, ds0, p0, q0, hargs, rfl, rfl, h0, r0⟩ := trodAll_cons hA
  obtain ⟨v1, vs1, d1, ds1, p1, q1, rfl, rfl, rfl, h1, r1⟩ := trodAll_cons r0
  obtain ⟨v2, vs2, d2, ds2, p2, q2, rfl, rfl, rfl, h2, r2⟩ := trodAll_cons r1
  obtain ⟨v3, vs3, d3, ds3, p3, q3, rfl, rfl, rfl, h3, r3⟩ := trodAll_cons r2
  obtain ⟨v4, vs4, d4, ds4, p4, q4, rfl, rfl, rfl, h4, r4⟩ := trodAll_cons r3
  obtain ⟨v5, vs5, d5, ds5, p5, q5, rfl, rfl, rfl, h5, r5⟩ := trodAll_cons r4
  obtain ⟨rfl, rfl, rfl⟩ := trodAll_nil r5
  obtain rfl : args = #[v0, v1, v2, v3, v4, v5] := by cases args; simp_all
  obtain ⟨rfl, rfl⟩ := trodVars_none hV
  have k0 := h0
  have lt0 : ∀ x ∈ p0, x.block < W.heap.size := by obtain ⟨m, hm⟩ := k0; exact DataW.trod_lt m _ _ _ hm
  obtain ⟨a0, A0, n0, c0, z0, rfl, x0, l0, w0, u0⟩ := open_graph Tryz.underlying35 Tryz.underlying3 Tryz.underlying33 Tryz.underlying84 Tryz.underlying3 Tryz.underlying3 Tryz.underlying41 ⟨rfl, rfl, rfl⟩ ⟨by kernel_rfl, by kernel_rfl, by kernel_rfl⟩ (by kernel_rfl) (by kernel_rfl) (by kernel_rfl) (hval 0 35 v0 rfl rfl) h0
  have k1 := h1
  have lt1 : ∀ x ∈ p1, x.block < W.heap.size := by obtain ⟨m, hm⟩ := k1; exact DataW.trod_lt m _ _ _ hm
  obtain ⟨a1, rfl, w1⟩ := open_i64 Tryz.underlying3 (hval 1 3 v1 rfl rfl) h1
  have k2 := h2
  have lt2 : ∀ x ∈ p2, x.block < W.heap.size := by obtain ⟨m, hm⟩ := k2; exact DataW.trod_lt m _ _ _ hm
  obtain ⟨a2, rfl, w2⟩ := open_i64 Tryz.underlying3 (hval 2 3 v2 rfl rfl) h2
  have k3 := h3
  have lt3 : ∀ x ∈ p3, x.block < W.heap.size := by obtain ⟨m, hm⟩ := k3; exact DataW.trod_lt m _ _ _ hm
  obtain ⟨A3, n3, c3, z3, rfl, l3, w3, u3⟩ := open_numsC Tryz.underlying22 Tryz.underlying3 (by kernel_rfl) (hval 3 22 v3 rfl rfl) h3
  have k4 := h4
  have lt4 : ∀ x ∈ p4, x.block < W.heap.size := by obtain ⟨m, hm⟩ := k4; exact DataW.trod_lt m _ _ _ hm
  obtain ⟨A4, n4, c4, z4, rfl, l4, w4, u4⟩ := open_routes Tryz.underlying46 Tryz.underlying53 Tryz.underlying22 Tryz.underlying41 Tryz.underlying3 (by kernel_rfl) ⟨rfl, rfl⟩ ⟨by kernel_rfl, by kernel_rfl⟩ (by kernel_rfl) (hval 4 46 v4 rfl rfl) h4
  have k5 := h5
  have lt5 : ∀ x ∈ p5, x.block < W.heap.size := by obtain ⟨m, hm⟩ := k5; exact DataW.trod_lt m _ _ _ hm
  obtain ⟨o5, rfl, w5⟩ := open_popt Tryz.underlying73 Tryz.underlying3 Tryz.underlying3 ⟨rfl, rfl, rfl, rfl⟩ Tryz.underlying71 Tryz.underlying41 Tryz.underlying41 ⟨rfl, rfl⟩ ⟨by kernel_rfl, by kernel_rfl⟩ (by kernel_rfl) ⟨rfl, rfl, rfl, rfl, rfl, rfl⟩ ⟨by kernel_rfl, by kernel_rfl⟩ (by kernel_rfl) (hval 5 73 v5 rfl rfl) h5
  clear hA0 hval0
  refine (penWhysW a0 A0 n0 c0 z0 a1 a2 A3 n3 c3 z3 A4 n4 c4 z4 o5 W x0 l0 w0 u0 w1 w2 l3 w3 u3 l4 w4 u4 w5).mono fun e W' ⟨he, bel⟩ => ?_
  subst he
  exact ⟨_, rfl, _, _, _, [], _, [], hW', trodAll_mk1 (shut_bool Tryz.underlying4 _), (trodAll_cons_mk (Below.trod laidOut (by kernel_rfl) (of_decide_eq_true (by kernel_rfl)) k0 bel lt0) (trodAll_cons_mk (Below.trod laidOut (by kernel_rfl) (of_decide_eq_true (by kernel_rfl)) k1 bel lt1) (trodAll_cons_mk (Below.trod laidOut (by kernel_rfl) (of_decide_eq_true (by kernel_rfl)) k2 bel lt2) (trodAll_cons_mk (Below.trod laidOut (by kernel_rfl) (of_decide_eq_true (by kernel_rfl)) k3 bel lt3) (trodAll_cons_mk (Below.trod laidOut (by kernel_rfl) (of_decide_eq_true (by kernel_rfl)) k4 bel lt4) (trodAll_cons_mk (Below.trod laidOut (by kernel_rfl) (of_decide_eq_true (by kernel_rfl)) k5 bel lt5) trodAll_mk0)))))), rfl, Below.frame bel _, fun h => by cases h⟩

theorem over : Rows.penWhysRow.holds Tryz.pinned (OpenSpec.ofChange Rows.penWhysSpec) :=
  OpenClaim.holds_of_wide 9 Tryz.f9 rfl rfl rfl rfl rfl rfl rfl ⟨rfl, rfl, rfl, rfl, rfl⟩ rfl rfl rfl rfl rfl (by kernel_rfl) Tryz.func9 (by kernel_rfl)
    (of_decide_eq_true (by kernel_rfl)) (by unfold Func.isWrapper; first | (rw [if_pos (by decide +kernel)]; kernel_rfl) | (rw [if_neg (by decide +kernel)]; exact ⟨rfl, rfl⟩))
    (fun os started H enc _ => lifted os started H enc)

end Go.Proofs.YtgplpgldhoelcaaGreat.lawPenWhys
namespace Go.Proofs.YtgplpgldhoelcaaGreat
theorem penWhys_proved : Rows.PenWhysSaid := lawPenWhys.over
#print axioms penWhys_proved
end Go.Proofs.YtgplpgldhoelcaaGreat

