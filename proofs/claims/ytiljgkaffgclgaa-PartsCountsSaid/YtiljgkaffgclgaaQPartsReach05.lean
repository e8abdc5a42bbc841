/- Regions that draw their order, inside a round of a range over a function: the same one walk. -/
import Derived.Test.YtiljgkaffgclgaaQPartsReach00
import Derived.OrdersIn
import Derived.TacticsIn
import Derived.Test.YtiljgkaffgclgaaQPartsReach04
import Derived.RangeFuncNested
import Derived.RangeFuncBound
import Derived.Shelf.Abstract
import Derived.Shelf.RegionOpen
import Derived.OwnWalkIn
import Derived.TacticsInMore
import Derived.LoopNIn
import Derived.LoopIn
import Derived.Test.YtiljgkaffgclgaaQPartsReach02
import Derived.Test.YtiljgkaffgclgaaQPartsReach03
/- Regions that draw their order, inside a round of a range over a function: the same one walk. -/
namespace Go.Proofs.Ytiljgkaffgclgaa
open Go Go.RowKit

/-- A fence that lets all in. -/
structure WideF (F : Fence) : Prop where
  fn : ∀ f, F.fn f
  calls : ∀ (n : Nat) (P : Program) (f : FuncId) (args : Array Value) (w : World) (R : Ending → World → Prop), Calls P f args w R → CallsIn F n P f args w R
  depth : F.depth = none
theorem wideF_wide : WideF Fence.wide := ⟨fun _ => trivial, fun _ _ _ _ _ _ h => callsIn_wide.2 h, rfl⟩
theorem wideF_round (l : Nat) : WideF (Fence.wide.inRound l) := ⟨fun _ => trivial, fun _ _ _ _ _ _ h => callsIn_wide.2 h, rfl⟩

theorem wide_fn (f : FuncId) : Fence.wide.fn f = True := rfl
theorem wide_depth : Fence.wide.depth = none := rfl
attribute [go_sem] wide_fn wide_depth

def noDefer (l : List Oper) : Bool := l.all fun o => match o.op with | .defer _ => false | _ => true

section
variable {F : Fence} {m : Nat} {P : Program} {ops : Array Oper} {md : Region.Mode} {w0 : World}

theorem semAt_of {o : Oper} (h : (match o.op with | .defer _ => false | _ => true) = true) (r : Option Nat) (ρ : Operand → Value) : o.semAt r ρ = execOp ρ o := by
  cases r with
  | none => exact Oper.semAt_none ρ o
  | some l => exact Oper.semAt_some l ρ o fun c e => by rw [e] at h; cases h

theorem wpIn_of_runs (hF : WideF F) {o : Oper} (hd : (match o.op with | .defer _ => false | _ => true) = true) {a' : Act} {w : World} {q : Value → World → Prop} {K : Act → World → Prop} {Q : Exit → Act → World → Prop}
    (hrun : runsTo P q ((execOp a'.eval o).run P w)) (hK : ∀ u w', q u w' → K (a'.put o.dst u) w') : o.wpIn F m P a' w K Q := by
  unfold Oper.wpIn
  refine ⟨fun f _ => hF.fn f, ?_⟩
  rw [semAt_of hd]
  generalize (execOp a'.eval o).run P w = res at hrun
  cases res with
  | halt x w' => simp only [runsTo] at hrun
  | ok x w' =>
    cases x <;> simp only [runsTo] at hrun <;> simp only [Oper.uponIn]
    case value u => exact hK _ _ hrun
    case skip => exact hK _ _ hrun
    case enter f args =>
      refine ⟨fun h => (by rw [hF.depth] at h; cases h), hF.calls _ _ _ _ _ _ (hrun.mono fun e w'' ⟨u, he, hq⟩ => ?_)⟩
      subst he
      exact hK _ _ hq

theorem wpAnyIn_of_gAny (hF : WideF F) (hnd : ∀ o ∈ ops.toList, (match o.op with | .defer _ => false | _ => true) = true) {Q : Exit → Act → World → Prop} : ∀ (n : Nat) (l : Array Bool) (a : Act) (G : Env) (a' : Act) (w : World), Grows w0 w → AllLast G → Conc G a a' w →
    gAny P md ops w0 (fun a G => ∀ w, Grows w0 w → ∀ a', Conc G a a' w → Q .normal a' w) n l a G → wpAnyIn F m P md ops Q n l a' w
  | 0, _, _, _, _, _, hw, _, hc, h => ⟨h.1, h.2 _ hw _ hc⟩
  | n + 1, l, a, G, a', w, hw, hG, hc, h => by
    refine ⟨fun h0 => h.1 h0 _ hw _ hc, fun i hi => ?_⟩
    have h1 := h.2 i hi
    unfold gOp at h1
    unfold wpOpIn
    split
    · rename_i ho
      simp only [ho] at h1
      exact wpAnyIn_of_gAny hF hnd n _ a G a' w hw hG hc h1
    · rename_i o ho
      simp only [ho] at h1
      obtain ⟨r, ⟨hg, hd, hy⟩, hK⟩ := h1
      rw [wanted_conc hg hc]
      rcases hy with ⟨hwant, hl, hf, howe⟩ | ⟨hwant, rfl⟩
      · rw [if_pos hwant]
        exact wpIn_of_runs hF (hnd o (by have := Array.mem_of_getElem? ho; simpa using this)) (howe w hw a' (fun t _ => hc.2 t)) fun u w' hq =>
          wpAnyIn_of_gAny hF hnd n _ _ _ _ _ (hw.trans hq.1) (hG.putG hl) (hc.step hG hq.1 hd hf hq.2) hK
      · rw [hwant]
        simp only [Bool.false_eq_true, if_false]
        refine ⟨fun f _ => hF.fn f, ?_⟩
        have hG0 : putG G o.dst (.inl undef) = G := by cases o.dst <;> rfl
        rw [hG0] at hK
        have hc0 := hc.step hG (Grows.refl w) hd (r := .inl undef) (u := undef) trivial rfl
        rw [hG0] at hc0
        exact wpAnyIn_of_gAny hF hnd n _ _ _ _ _ hw hG hc0 hK

theorem wpIn_region_from (hF : WideF F) {w0 : World} {id : Nat} {Q : Exit → Act → World → Prop} {a : Act} {w : World} {l : List Oper} (hm : P.follows .mixedOrders = true) (hB : Region.lexB .any l.toArray = true) (hnd : noDefer l = true)
    (hw0 : Grows w0 w) (h : gLex P l.toArray w0 (fun a G => ∀ w', Grows w0 w' → ∀ a', Conc G a a' w' → Q .normal a' w') l a Env.no) : (Code.region id l.toArray true).wpIn F m P Q a w := by
  simp only [Region.lexB, Bool.and_eq_true] at hB
  refine wpIn_region_any hm (wpAnyIn_of_gAny hF (by simpa [noDefer, List.all_eq_true] using hnd) (w0 := w0) _ _ a Env.no _ _ (hw0.trans (Grows.drawn w _)) (fun t p h => by cases h) ⟨rfl, fun t => rfl⟩ ?_)
  have := gAny_of_lex (ops := l.toArray) (md := .any) l 0 (Array.replicate l.length false) a Env.no (by simp) (by simpa using hB.2) h
  simpa using this

theorem wpIn_region_gen (hF : WideF F) {id : Nat} {Q : Exit → Act → World → Prop} {a : Act} {w : World} {l : List Oper} (hm : P.follows .mixedOrders = true) (hB : Region.lexB .any l.toArray = true) (hnd : noDefer l = true)
    (h : gLex P l.toArray w (fun a G => ∀ w', Grows w w' → ∀ a', Conc G a a' w' → Q .normal a' w') l a Env.no) : (Code.region id l.toArray true).wpIn F m P Q a w :=
  wpIn_region_from hF hm hB hnd (Grows.refl w) h
theorem wpIn_region_gen2 (hF : WideF F) {id : Nat} {Q : Exit → Act → World → Prop} {a : Act} {w : World} {x : Later w} {l : List Oper} (hm : P.follows .mixedOrders = true) (hB : Region.lexB .any l.toArray = true) (hnd : noDefer l = true)
    (h : gLex P l.toArray w (fun a G => ∀ w', Grows w w' → ∀ a', Conc G a a' w' → Q .normal a' w') l a Env.no) : (Code.region id l.toArray true).wpIn F m P Q a x.now :=
  wpIn_region_from hF hm hB hnd x.grows h
/-- What holds of the plain walk of a list of operations holds in a round. -/
theorem calls_in (hF : WideF F) {f : FuncId} {args : Array Value} {w : World} {R : Ending → World → Prop} (h : Calls P f args w R) : CallsIn F m P f args w R := hF.calls _ _ _ _ _ _ h
end
end Go.Proofs.Ytiljgkaffgclgaa

/- The edges of a node, handed over one by one. -/
namespace Go.Proofs.Ytiljgkaffgclgaa
open Go Go.RowKit
attribute [local go_sem] Oper.semAt_some
set_option maxHeartbeats 1000000 in
theorem adjEach (b : Nat) (v : Int) (back : Bool) (w : World) : Calls Try.prog 91 #[.pointer (some ⟨b, 0, none⟩), .int .i64 v, .bool back] w fun e w' =>
    ∃ b1, e = .returned (.func (.func 144) #[] #[.pointer (some ⟨b1, 0, none⟩), .pointer (some ⟨b1 + 1, 0, none⟩), .pointer (some ⟨b1 + 1 + 1, 0, none⟩)]) ∧ w.heap.size = b1 ∧
      Arr w' b1 121 [.pointer (some ⟨b, 0, none⟩)] ∧ Arr w' (b1 + 1) 3 [.int .i64 v] ∧ Arr w' (b1 + 1 + 1) 4 [.bool back] ∧ Grows w w' := by
  go_enter Try.func91, Try.ntmps91
  go_wp2
  go_ret
  refine ⟨w.heap.size, rfl, rfl, ⟨by simp [heap_push, Array.getElem_push, Array.getElem?_push, eq_add2]⟩, ⟨by simp [heap_push, Array.getElem_push]⟩, ⟨by simp [heap_push, Array.getElem_push]⟩, (by repeat (first | exact Grows.refl _ | refine Grows.now ?_ _ | refine Grows.new ?_ _ | refine Grows.drewN ?_ _ | refine Grows.drew ?_ | assumption | (refine Grows.set ?_ (by first | omega | (simp; done) | (simp; omega)) _)))⟩
def encE (E : List Edg) (i : Nat) : Array Value := #[.int .i64 (i : Int), eVal (ge E i)]
set_option maxRecDepth 20000 in
set_option maxHeartbeats 2000000 in
theorem each_gives (F B M0 : Nat → Prop) (b N : Nat) (E : List Edg) (v : Nat) (back : Bool) (b1 : Nat) (w : World) (hA : AdjAt F w b N E) (hF : ∀ k, F k → B k ∨ M0 k) (hE : InN N E) (hv : v < N) (hn : E.length ≤ 1000000) (hN : N ≤ 100000)
    (hm : ∀ k, M0 k → k < w.heap.size) (m1 : B b1 ∨ M0 b1) (m2 : B (b1 + 1) ∨ M0 (b1 + 1)) (m3 : B (b1 + 1 + 1) ∨ M0 (b1 + 1 + 1))
    (a1 : Arr w b1 121 [.pointer (some ⟨b, 0, none⟩)]) (a2 : Arr w (b1 + 1) 3 [.int .i64 (v : Int)]) (a3 : Arr w (b1 + 1 + 1) 4 [.bool back]) :
    Gives Try.prog 144 #[.pointer (some ⟨b1, 0, none⟩), .pointer (some ⟨b1 + 1, 0, none⟩), .pointer (some ⟨b1 + 1 + 1, 0, none⟩)] (encE E) B M0 (rowN (nN E back) E.length v) w := by
  intro l J Jx W hkW hJ hJx hY h0
  have HJ := hide hJ
  have HY := hide hY
  have H0 := hide h0
  have HE := hide hE
  have hF2 : ∀ k, F k → ¬ ¬ (B k ∨ M0 k) := fun k hk h1 => h1 (hF k hk)
  have HF := hide hF2
  have HA := hide (hA.touch hkW hF2)
  have i1 : Arr W b1 121 [.pointer (some ⟨b, 0, none⟩)] := ⟨hkW.at m1 a1.is⟩
  have i2 : Arr W (b1 + 1) 3 [.int .i64 (v : Int)] := ⟨hkW.at m2 a2.is⟩
  have i3 : Arr W (b1 + 1 + 1) 4 [.bool back] := ⟨hkW.at m3 a3.is⟩
  have C := hide (adjRow F b N E v back W HA.out HE.out hv hn hN)
  have hmW : ∀ k, M0 k → k < W.heap.size := fun k hk => Nat.lt_of_lt_of_le (hm k hk) hkW.size
  have HM := hide hmW
  have HM1 := hide m1
  clear hJ hY h0 hE hA hkW a1 a2 a3 hm hmW hF hF2 m2 m3
  have hrl : Hid ((rowN (nN E back) E.length v).length = cntN (nN E back) v E.length) := rowN_len _ _ _
  have hcl := cntN_le (nN E back) v E.length
  generalize hxs : rowN (nN E back) E.length v = xs at *
  generalize hcn : cntN (nN E back) v E.length = cn at *
  have HXS := hide hxs
  clear hxs hcn
  refine callsIn_of_wp Try.func144 rfl trivial ?_ rfl
  simp only [Try.ntmps144, List.size_toArray, List.length_cons, List.length_nil, Nat.reduceAdd, Nat.reduceSub, Array.replicate_succ, Array.replicate_zero, List.push_toArray, List.append_toArray, List.nil_append, List.cons_append]
  gi_wp2_with (gi_at_call 145; refine (calls_in wideF_wide C.out).mono ?_; rintro e w' ⟨A, rfl, hr, hg⟩; obtain ⟨x1, rfl⟩ := hg.later; have HR := hide hr; clear hg hr)
  have HK1 : Hid (Keeps B M0 W x1.now) := x1.grows.touch _
  have H1 : Hid (J [] M0 x1.now) := HJ.out [] _ W _ _ H0.out (x1.grows.touch _) (fun k hk => ⟨.inl hk, Nat.lt_of_lt_of_le (HM.out k hk) x1.size⟩)
  clear H0
  gi_loopw [12] (fun s wr => ∃ k : Nat, k ≤ cn ∧ s = .int .i64 (k : Int) ∧ Keeps B M0 W wr ∧ J (xs.take k) M0 wr) (fun s _ => cn - (Go.RowKit.intOf s).toNat)
  case atStart => exact ⟨0, by omega, by go_num, HK1.out, H1.out⟩
  case round =>
    obtain ⟨k, hk, rfl, hkp, hj⟩ := hrel
    have j1 : Arr wr b1 121 [.pointer (some ⟨b, 0, none⟩)] := ⟨hkp.at HM1.out i1.is⟩
    have HAr := hide (HA.out.touch hkp HF.out)
    have HRr := hide (Rd.touch HR.out.1 hkp (fun p hp => HF.out _ (HR.out.2 p hp)))
    have HJ1 := hide hj
    have HKP := hide hkp
    clear hj hkp H1 HK1
    by_cases hlt : k < cn
    · have hxk : k < xs.length := by rw [hrl.out]; exact hlt
      obtain ⟨g, off, rfl, hc⟩ := HRr.out.at_ (by omega)
      have c1 : Holds wr ⟨g, off + k, none⟩ (.int .i64 (gn xs k : Int)) := ⟨hc k _ (nv_at hxk)⟩
      obtain ⟨EA, cE, g1, g2, g3, g4, e1, e2, _, _⟩ := HAr.out
      have hin : gn xs k < E.length := by
        have : (rowN (nN E back) E.length v)[k]? = some (gn xs k) := by rw [HXS.out]; simp [gn, hxk]
        exact rowN_lt _ this
      obtain ⟨ge0, offe, rfl, hce⟩ := e2.edgesH (by omega)
      obtain ⟨q1, q2, q3⟩ := hce _ hin
      have hsp : xs = xs.take k ++ gn xs k :: xs.drop (k + 1) := by
        have : gn xs k = xs[k] := by simp [gn, hxk]
        rw [this, List.getElem_cons_drop, List.take_append_drop]
      obtain ⟨fn, tmps, assign, body, hy, hR⟩ := HY.out _ _ _ _ _ hsp HJ1.out
      unfold encE eVal at hy
      have HRR := hide hR
      have HSP := hide hsp
      clear hc hce hR hsp e2
      gi_wp2
      refine HRR.out.mono ?_
      rintro e W3 (⟨rfl, hJ3, hk3⟩ | ⟨rfl, hJx3, _⟩)
      · have HJ3 := hide hJ3
        have HK3 := hide hk3
        clear hJ3 hk3
        gi_wp2
        go_roundw
        case rel =>
          refine ⟨k + 1, by omega, by go_num, HKP.out.trans HK3.out, ?_⟩
          have e : xs.take (k + 1) = xs.take k ++ [gn xs k] := by
            rw [List.take_succ_eq_append_getElem hxk]
            simp [gn, hxk]
          rw [e]
          exact HJ3.out
        case measure => simp [Go.RowKit.intOf]; omega
      · have HJX := hide hJx3
        clear hJx3
        gi_wp2
        refine bodyPost_ret (results_none rfl _ _ _) rfl ?_
        exact ⟨⟨_, rfl⟩, .inr ⟨xs.take k, gn xs k, xs.drop (k + 1), _, HSP.out, HJX.out⟩⟩
    · have hke : xs.take k = xs := List.take_of_length_le (by rw [hrl.out]; omega)
      have HJ2 := HJ1.out
      rw [hke] at HJ2
      have HJE := hide HJ2
      clear HJ2 hke
      gi_wp2
      go_end0
      exact ⟨⟨_, rfl⟩, .inl ⟨_, HJE.out⟩⟩
end Go.Proofs.Ytiljgkaffgclgaa

/- Loops by a measure of one's own; functions that hold ranges over functions: the marks that these leave. -/
namespace Go.Proofs.Ytiljgkaffgclgaa
open Go Go.RowKit

theorem least {p : Nat → Prop} (h : ∃ m, p m) : ∃ m, p m ∧ ∀ k, p k → m ≤ k := by
  obtain ⟨m, hm⟩ := h
  induction m using Nat.strongRecOn with
  | _ m ih =>
    by_cases hk : ∃ k, k < m ∧ p k
    · obtain ⟨k, h1, h2⟩ := hk
      exact ih k h1 h2
    · exact ⟨m, hm, fun k hp => Nat.le_of_not_lt fun h => hk ⟨k, h, hp⟩⟩
theorem least_fn (Inv : Nat → Act → World → Prop) : ∃ μ : Act → World → Nat, ∀ a w, (∃ m, Inv m a w) → Inv (μ a w) a w ∧ ∀ k, Inv k a w → μ a w ≤ k := by
  have h : ∀ a w, ∃ m, (∃ m, Inv m a w) → Inv m a w ∧ ∀ k, Inv k a w → m ≤ k := fun a w => by
    by_cases he : ∃ m, Inv m a w
    · obtain ⟨m, hm⟩ := least he
      exact ⟨m, fun _ => hm⟩
    · exact ⟨0, fun h => absurd h he⟩
  exact ⟨fun a w => Classical.choose (h a w), fun a w => Classical.choose_spec (h a w)⟩
/-- A loop: each round takes an invariant to one of a lesser measure. -/
theorem wpIn_loop_m {F : Fence} {n : Nat} {P : Program} {c : Code} {Q : Exit → Act → World → Prop} {a : Act} {w : World} (Inv : Nat → Act → World → Prop) (h0 : ∃ m, Inv m a w)
    (hr : ∀ m a w, Inv m a w → c.wpIn F n P (Exit.then (fun a' w' => ∃ m', m' < m ∧ Inv m' a' w') Q) a w) : (Code.loop c).wpIn F n P Q a w := by
  obtain ⟨μ, hμ⟩ := least_fn Inv
  refine wpIn_loop (fun a w => ∃ m, Inv m a w) μ h0 fun a w h => ?_
  refine wpIn_mono (hr _ a w (hμ a w h).1) fun e a' w' hq => ?_
  cases e <;> first | exact hq | skip
  obtain ⟨m', h1, h2⟩ := hq
  exact ⟨⟨m', h2⟩, Nat.lt_of_le_of_lt ((hμ a' w' ⟨m', h2⟩).2 m' h2) h1⟩
theorem wp_loop_m {P : Program} {c : Code} {Q : Exit → Act → World → Prop} {a : Act} {w : World} (Inv : Nat → Act → World → Prop) (h0 : ∃ m, Inv m a w)
    (hr : ∀ m a w, Inv m a w → c.wp P (Exit.then (fun a' w' => ∃ m', m' < m ∧ Inv m' a' w') Q) a w) : (Code.loop c).wp P Q a w := by
  obtain ⟨μ, hμ⟩ := least_fn Inv
  refine wp_loop (fun a w => ∃ m, Inv m a w) μ h0 fun a w h => ?_
  refine wp_mono (hr _ a w (hμ a w h).1) fun e a' w' hq => ?_
  cases e <;> first | exact hq | skip
  obtain ⟨m', h1, h2⟩ := hq
  exact ⟨⟨m', h2⟩, Nat.lt_of_le_of_lt ((hμ a' w' ⟨m', h2⟩).2 m' h2) h1⟩

/-- The marks of loops that are over. -/
def marks (Ds : List Nat) : List Deferred := Ds.map fun D => { target := .collected D, args := #[] }
/-- They are there, each once. -/
def Marks (Ds : List Nat) (W : World) : Prop := Ds.Nodup ∧ ∀ D ∈ Ds, W.heap[D]? = some (.deferred (some []))
theorem Marks.nil (W : World) : Marks [] W := ⟨List.nodup_nil, fun D h => by cases h⟩
theorem Marks.touch {Ds : List Nat} {W W' : World} {S : Nat → Prop} (h : Marks Ds W) (ht : Touch S W W') (hs : ∀ D ∈ Ds, ¬ S D) : Marks Ds W' := ⟨h.1, fun D hD => ht.at (hs D hD) (h.2 D hD)⟩
theorem Marks.keeps {Ds : List Nat} {W W' : World} {B M : Nat → Prop} (h : Marks Ds W) (ht : Keeps B M W W') (hs : ∀ D ∈ Ds, M D) : Marks Ds W' := ⟨h.1, fun D hD => ht.at (.inr (hs D hD)) (h.2 D hD)⟩
theorem Marks.cons {Ds : List Nat} {W : World} {D : Nat} (h : Marks Ds W) (hD : W.heap[D]? = some (.deferred (some []))) (hn : D ∉ Ds) : Marks (D :: Ds) W :=
  ⟨List.nodup_cons.2 ⟨hn, h.1⟩, fun E hE => by
    rcases List.mem_cons.1 hE with rfl | hE
    · exact hD
    · exact h.2 E hE⟩
theorem marks_leave {F : Fence} {n : Nat} {P : Program} {fn : Func} {tmps : Array Value} {R : Ending → World → Prop} : ∀ (Ds : List Nat) (W : World), Marks Ds W →
    (∀ W', Touch (fun k => k ∈ Ds) W W' → ∃ v, (results fn tmps).run P W' = .ok v W' ∧ R (.returned v) W') → LeavesInM F n P fn tmps R (marks Ds) .returning W
  | [], W, _, h => h W (Touch.refl _ _)
  | D :: Ds, W, hM, h => by
    have hnd := List.nodup_cons.1 hM.1
    have hk := hM.2 D (by simp)
    refine ⟨by simp, .inl ⟨D, _, rfl, run_takeDeferred hk, ?_⟩⟩
    refine marks_leave Ds _ ⟨hnd.2, fun E hE => ?_⟩ fun W' ht => h W' ?_
    · rw [World.putObj_heap_other (fun e => by subst e; exact hnd.1 hE)]
      exact hM.2 E (by simp [hE])
    · exact ((Touch.refl _ W).put (.inl (by simp)) _).trans2 ht fun k hk => .inl (by simp [hk])
theorem marks_ret {n : Nat} {P : Program} {fn : Func} {R : Ending → World → Prop} {a : Act} {W : World} (Ds : List Nat) (hd : a.defers = marks Ds) (hM : Marks Ds W)
    (h : ∀ W', Touch (fun k => k ∈ Ds) W W' → ∃ v, (results fn a.tmps).run P W' = .ok v W' ∧ R (.returned v) W') : bodyPostM Fence.wide n P fn R .ret a W := by
  show LeavesInM _ _ _ _ _ _ a.defers _ _
  rw [hd]
  exact marks_leave Ds W hM h
theorem marks_end {n : Nat} {P : Program} {fn : Func} {R : Ending → World → Prop} {a : Act} {W : World} (Ds : List Nat) (hd : a.defers = marks Ds) (hM : Marks Ds W)
    (h : ∀ W', Touch (fun k => k ∈ Ds) W W' → ∃ v, (results fn a.tmps).run P W' = .ok v W' ∧ R (.returned v) W') : bodyPostM Fence.wide n P fn R .normal a W := by
  show LeavesInM _ _ _ _ _ _ a.defers _ _
  rw [hd]
  exact marks_leave Ds W hM h
/-- A function that holds ranges over functions, walked as any other. -/
theorem calls_of_marks {P : Program} {f : FuncId} {fn : Func} {c : Code} {args : Array Value} {w : World} {R : Ending → World → Prop} (hf : P.funcs[f]? = some fn) (hb : fn.body = some c)
    (h : c.wp P (bodyPostM Fence.wide 0 P fn R) { tmps := args ++ Array.replicate (fn.ntmps - args.size) undef, defers := [] } w) : Calls P f args w R :=
  callsIn_wide.1 (callsIn_of_wp_marks (n := 0) hf hb trivial (wpIn_wide.2 h) rfl)
end Go.Proofs.Ytiljgkaffgclgaa

/- Contracts: rows that forget. -/
namespace Go.Proofs.Ytiljgkaffgclgaa
open Go Go.RowKit
/-- A place's cells: what it has, and since when. -/
def scCells (p : Nat × Nat) : List Value := [.int .u64 (p.1 : Int), .int .u64 (p.2 : Int)]
def scs (L : List (Nat × Nat)) : List Value := L.flatMap scCells
def gp (L : List (Nat × Nat)) (i : Nat) : Nat × Nat := L.getD i (0, 0)
theorem scs_len (L : List (Nat × Nat)) : (scs L).length = L.length * 2 := flat_len scCells 2 (fun _ => rfl) L
theorem scs_at (L : List (Nat × Nat)) (i j : Nat) (hi : i < L.length) (hj : j < 2) : (scs L)[i * 2 + j]? = (scCells (gp L i))[j]? := flat_get scCells 2 (fun _ => rfl) (0, 0) L i j hi hj
theorem gp_set (L : List (Nat × Nat)) (i j : Nat) (p : Nat × Nat) (hi : i < L.length) : gp (L.set i p) j = if j = i then p else gp L j := by
  unfold gp
  by_cases h : j = i
  · subst h; simp [hi]
  · simp [h, Ne.symm h]
theorem scs_set (L : List (Nat × Nat)) (i : Nat) (p : Nat × Nat) (hi : i < L.length) : ((scs L).set (i * 2) (.int .u64 (p.1 : Int))).set (i * 2 + 1) (.int .u64 (p.2 : Int)) = scs (L.set i p) := by
  apply List.ext_getElem?
  intro k
  have hk : k = k / 2 * 2 + k % 2 := (Nat.div_add_mod' k 2).symm
  have hm : k % 2 < 2 := Nat.mod_lt _ (by omega)
  have hl := scs_len L
  have hl2 := scs_len (L.set i p)
  rw [List.length_set] at hl2
  rcases Nat.lt_or_ge (k / 2) L.length with hlt | hge
  · have h1 := scs_at L (k / 2) (k % 2) hlt hm
    have h2 := scs_at (L.set i p) (k / 2) (k % 2) (by simpa using hlt) hm
    rw [← hk] at h1 h2
    rw [h2, gp_set _ _ _ _ hi]
    by_cases he : k / 2 = i
    · rw [if_pos he]
      rcases (by omega : k = i * 2 ∨ k = i * 2 + 1) with e | e
      · have e2 : k % 2 = 0 := by omega
        rw [List.getElem?_set_ne (by omega), e, List.getElem?_set_self (by omega)]
        rw [e] at e2
        rw [e2]; rfl
      · have e2 : k % 2 = 1 := by omega
        rw [e, List.getElem?_set_self (by simp; omega)]
        rw [e] at e2
        rw [e2]; rfl
    · rw [if_neg he, List.getElem?_set_ne (by omega), List.getElem?_set_ne (by omega), h1]
  · rw [List.getElem?_eq_none (by simp; omega), List.getElem?_eq_none (by omega)]
/-- A row of places at time 1. -/
structure StL (w : World) (b g : Nat) (L : List (Nat × Nat)) (m : Int) : Prop where
  row : Arr w b 193 [.slice (some ⟨g, 0, none⟩) L.length L.length, .int .u64 1, .int .i64 m]
  cells : Row1 w g 203 2 L.length L.length (scs L)
theorem StL.c0 {w : World} {b g : Nat} {L : List (Nat × Nat)} {m : Int} (h : StL w b g L m) {i : Nat} (hi : i < L.length) : Mine w ⟨g, i * 2, none⟩ (.int .u64 ((gp L i).1 : Int)) :=
  h.cells.mine (by have := scs_at L i 0 hi (by omega); rw [Nat.add_zero] at this; rw [this]; rfl)
theorem StL.c1 {w : World} {b g : Nat} {L : List (Nat × Nat)} {m : Int} (h : StL w b g L m) {i : Nat} (hi : i < L.length) : Mine w ⟨g, i * 2 + 1, none⟩ (.int .u64 ((gp L i).2 : Int)) :=
  h.cells.mine (by rw [scs_at L i 1 hi (by omega)]; rfl)
theorem StL.ne {w : World} {b g : Nat} {L : List (Nat × Nat)} {m : Int} (h : StL w b g L m) : g ≠ b := h.cells.ne h.row (by decide)
theorem StL.touch {w w' : World} {b g : Nat} {L : List (Nat × Nat)} {m : Int} {S : Nat → Prop} (h : StL w b g L m) (ht : Touch S w w') (h1 : ¬ S b) (h2 : ¬ S g) : StL w' b g L m := ⟨h.row.touch ht h1, h.cells.touch ht h2⟩
theorem StL.grow {w w' : World} {b g : Nat} {L : List (Nat × Nat)} {m : Int} (h : StL w b g L m) (ht : Grows w w') : StL w' b g L m := ⟨h.row.grow ht, h.cells.grow ht⟩
theorem stLen (b : Nat) (g n c : Nat) (u : Value) (v : Value) (w : World) (h : Arr w b 193 [.slice (some ⟨g, 0, none⟩) n c, u, v]) : Calls Try.prog 192 #[.pointer (some ⟨b, 0, none⟩)] w fun e w' => e = .returned (.int .i64 (n : Int)) ∧ w = w' := by
  go_enter Try.func192, Try.ntmps192
  go_wp2
  go_ret
  exact ⟨rfl, rfl⟩
theorem stAt (b g n c : Nat) (u v : Value) (i : Nat) (w : World) (h : Arr w b 193 [.slice (some ⟨g, 0, none⟩) n c, u, v]) (hi : i < n) : Calls Try.prog 167 #[.pointer (some ⟨b, 0, none⟩), .int .i64 (i : Int)] w fun e w' => e = .returned (.pointer (some ⟨g, i * 2, none⟩)) ∧ w = w' := by
  go_enter Try.func167, Try.ntmps167
  go_wp2_with (first | (go_at_call 192; refine (stLen b g n c u v _ h).mono ?_; rintro e w' ⟨rfl, rfl⟩))
  go_ret
  exact ⟨rfl, rfl⟩
set_option maxHeartbeats 1000000 in
theorem stGet (b g : Nat) (L : List (Nat × Nat)) (m : Int) (i : Nat) (w : World) (h : StL w b g L m) (hi : i < L.length) :
    Calls Try.prog 127 #[.pointer (some ⟨b, 0, none⟩), .int .i64 (i : Int)] w fun e w' => e = .returned (.tuple #[.int .u64 (if (gp L i).2 = 1 then ((gp L i).1 : Int) else 0), .bool (decide ((gp L i).2 = 1))]) ∧ Grows w w' := by
  have m0 := h.c0 hi
  have m1 := h.c1 hi
  have hr := h.row
  have HR := hide hr
  generalize gp L i = p at *
  obtain ⟨x, t⟩ := p
  dsimp only at *
  by_cases ht : t = 1
  · subst ht
    go_enter Try.func127, Try.ntmps127
    go_wp2_with (go_at_call 167; refine (stAt b g _ _ _ _ i _ HR.out hi).mono ?_; rintro e w' ⟨rfl, rfl⟩)
    ((first | refine wp_region_gen2 (by kernel_rfl) (by kernel_rfl) ?_ | refine wp_region_gen (by kernel_rfl) (by kernel_rfl) ?_); (repeat' (first | (refine gLex_val0 rfl (by kernel_rfl) (fun K hK => ?_); (go_simp; (try (simp only [↓IntWalk.iteOmega]; try go_simp)); (try simp (disch := omega) only [IntWalk.i64_in]); (try simp (disch := omega) only [IntWalk.u64_in]); first | (refine hK _ ?_; clear hK K) | (apply Exists.intro; refine ⟨fun x => ?_, hK _ ?_⟩; (first | fail); clear hK K))) | (refine gLex_undef rfl rfl rfl (by kernel_rfl) (fun K hK => ?_); go_simp; refine hK _ ?_; clear hK K) | (refine gLex_ask rfl rfl rfl ?_; first | (apply gAsk_yes; kernel_rfl; intro K hK; (go_simp; (try (simp only [↓IntWalk.iteOmega]; try go_simp)); (try simp (disch := omega) only [IntWalk.i64_in]); (try simp (disch := omega) only [IntWalk.u64_in]); first | (refine hK _ ?_; clear hK K) | (apply Exists.intro; refine ⟨fun x => ?_, hK _ ?_⟩; (first | fail); clear hK K))) | ((first | apply gAsk_no1 | apply gAsk_no2); kernel_rfl; intro K hK; simp [go_sem]; refine hK _ ?_; clear hK K) | (apply gAsk_part; kernel_rfl; all_goals (intro h K hK; (try simp only [Bool.not_true] at h); (try simp only [Bool.not_false] at h); (try simp only [decide_eq_true_eq] at h); (try simp only [decide_eq_false_iff_not] at h); first | (exfalso; first | contradiction | omega) | (go_simp; (try (simp only [↓IntWalk.iteOmega]; try go_simp)); (try simp (disch := omega) only [IntWalk.i64_in]); (try simp (disch := omega) only [IntWalk.u64_in]); first | (refine hK _ ?_; clear hK K) | (apply Exists.intro; refine ⟨fun x => ?_, hK _ ?_⟩; (first | fail); clear hK K))))))); all_goals ((apply gLex_end); intro y))
    go_wp2_with fail
    go_ret2
    exact ⟨rfl, (by repeat (first | exact Grows.refl _ | refine Grows.now ?_ _ | refine Grows.new ?_ _ | refine Grows.drewN ?_ _ | refine Grows.drew ?_ | assumption | (refine Grows.set ?_ (by first | omega | (simp; done) | (simp; omega)) _)))⟩
  · have hb : ((t : Int) == 1) = false := beq_eq_false_iff_ne.2 (by omega)
    have hb2 : ((t : Int) != 1) = true := by simp [bne, hb]
    have HT := hide ht
    clear ht
    go_enter Try.func127, Try.ntmps127
    go_wp2_with (go_at_call 167; refine (stAt b g _ _ _ _ i _ HR.out hi).mono ?_; rintro e w' ⟨rfl, rfl⟩)
    ((first | refine wp_region_gen2 (by kernel_rfl) (by kernel_rfl) ?_ | refine wp_region_gen (by kernel_rfl) (by kernel_rfl) ?_); (repeat' (first | (refine gLex_val0 rfl (by kernel_rfl) (fun K hK => ?_); (go_simp; (try (simp only [↓IntWalk.iteOmega]; try go_simp)); (try simp (disch := omega) only [IntWalk.i64_in]); (try simp (disch := omega) only [IntWalk.u64_in]); first | (refine hK _ ?_; clear hK K) | (apply Exists.intro; refine ⟨fun x => ?_, hK _ ?_⟩; (first | fail); clear hK K))) | (refine gLex_undef rfl rfl rfl (by kernel_rfl) (fun K hK => ?_); go_simp; refine hK _ ?_; clear hK K) | (refine gLex_ask rfl rfl rfl ?_; first | (apply gAsk_yes; kernel_rfl; intro K hK; (go_simp; (try (simp only [↓IntWalk.iteOmega]; try go_simp)); (try simp (disch := omega) only [IntWalk.i64_in]); (try simp (disch := omega) only [IntWalk.u64_in]); first | (refine hK _ ?_; clear hK K) | (apply Exists.intro; refine ⟨fun x => ?_, hK _ ?_⟩; (first | fail); clear hK K))) | ((first | apply gAsk_no1 | apply gAsk_no2); kernel_rfl; intro K hK; simp [go_sem]; refine hK _ ?_; clear hK K) | (apply gAsk_part; kernel_rfl; all_goals (intro h K hK; (try simp only [Bool.not_true] at h); (try simp only [Bool.not_false] at h); (try simp only [decide_eq_true_eq] at h); (try simp only [decide_eq_false_iff_not] at h); first | (exfalso; first | contradiction | omega) | (go_simp; (try (simp only [↓IntWalk.iteOmega]; try go_simp)); (try simp (disch := omega) only [IntWalk.i64_in]); (try simp (disch := omega) only [IntWalk.u64_in]); first | (refine hK _ ?_; clear hK K) | (apply Exists.intro; refine ⟨fun x => ?_, hK _ ?_⟩; (first | fail); clear hK K))))))); all_goals ((apply gLex_end); intro y))
    go_wp2_with fail
    go_ret2
    refine ⟨?_, (by repeat (first | exact Grows.refl _ | refine Grows.now ?_ _ | refine Grows.new ?_ _ | refine Grows.drewN ?_ _ | refine Grows.drew ?_ | assumption | (refine Grows.set ?_ (by first | omega | (simp; done) | (simp; omega)) _)))⟩
    simp
/-- A place is put. -/
theorem StL.put {w W : World} {b g : Nat} {L : List (Nat × Nat)} {m : Int} (h : StL w b g L m) (hg : Grows w W) (i v : Nat) (hi : i < L.length) (m' : Int) :
    StL ((W.setCell ⟨g, i * 2, none⟩ (.int .u64 (v : Int))).setCell ⟨g, i * 2 + 1, none⟩ (.int .u64 1)) b g (L.set i (v, 1)) m ∧ StL (((W.setCell ⟨b, 2, none⟩ (.int .i64 m')).setCell ⟨g, i * 2, none⟩ (.int .u64 (v : Int))).setCell ⟨g, i * 2 + 1, none⟩ (.int .u64 1)) b g (L.set i (v, 1)) m' := by
  have hne := h.ne
  have e := scs_set L i (v, 1) hi
  have hl : (L.set i (v, 1)).length = L.length := List.length_set
  constructor
  · refine ⟨?_, ?_⟩
    · rw [hl]; exact ((h.row.grow hg).other hne _).other hne _
    · rw [hl, ← e]; exact ((h.cells.grow hg).set _ _).set _ _
  · refine ⟨?_, ?_⟩
    · rw [hl]; exact (((h.row.grow hg).set 2 _).other hne _).other hne _
    · rw [hl, ← e]; exact (((h.cells.grow hg).other (Ne.symm hne) _).set _ _).set _ _
set_option maxHeartbeats 2000000 in
theorem stPut (b g : Nat) (L : List (Nat × Nat)) (m : Int) (i v : Nat) (w : World) (h : StL w b g L m) (hi : i < L.length) :
    Calls Try.prog 163 #[.pointer (some ⟨b, 0, none⟩), .int .i64 (i : Int), .int .u64 (v : Int)] w fun e w' => e = .returned (.bool true) ∧ (∃ m', StL w' b g (L.set i (v, 1)) m') ∧ Touch (fun k => k = b ∨ k = g) w w' := by
  have m0 := h.c0 hi
  have m1 := h.c1 hi
  have HR := hide h.row
  have HH := hide h
  have hr := h.row
  have hne := h.ne
  clear h
  have HNE := hide hne
  generalize hp : gp L i = p at *
  obtain ⟨x, t⟩ := p
  dsimp only at *
  clear hp hne
  by_cases ht : t = 1
  · subst ht
    go_enter Try.func163, Try.ntmps163
    go_wp2_with (go_at_call 167; refine (stAt b g _ _ _ _ i _ HR.out hi).mono ?_; rintro e w' ⟨rfl, rfl⟩)
    ((first | refine wp_region_gen2 (by kernel_rfl) (by kernel_rfl) ?_ | refine wp_region_gen (by kernel_rfl) (by kernel_rfl) ?_); (repeat' (first | (refine gLex_val0 rfl (by kernel_rfl) (fun K hK => ?_); (go_simp; (try (simp only [↓IntWalk.iteOmega]; try go_simp)); (try simp (disch := omega) only [IntWalk.i64_in]); (try simp (disch := omega) only [IntWalk.u64_in]); first | (refine hK _ ?_; clear hK K) | (apply Exists.intro; refine ⟨fun x => ?_, hK _ ?_⟩; (first | fail); clear hK K))) | (refine gLex_undef rfl rfl rfl (by kernel_rfl) (fun K hK => ?_); go_simp; refine hK _ ?_; clear hK K) | (refine gLex_ask rfl rfl rfl ?_; first | (apply gAsk_yes; kernel_rfl; intro K hK; (go_simp; (try (simp only [↓IntWalk.iteOmega]; try go_simp)); (try simp (disch := omega) only [IntWalk.i64_in]); (try simp (disch := omega) only [IntWalk.u64_in]); first | (refine hK _ ?_; clear hK K) | (apply Exists.intro; refine ⟨fun x => ?_, hK _ ?_⟩; (first | fail); clear hK K))) | ((first | apply gAsk_no1 | apply gAsk_no2); kernel_rfl; intro K hK; simp [go_sem]; refine hK _ ?_; clear hK K) | (apply gAsk_part; kernel_rfl; all_goals (intro h K hK; (try simp only [Bool.not_true] at h); (try simp only [Bool.not_false] at h); (try simp only [decide_eq_true_eq] at h); (try simp only [decide_eq_false_iff_not] at h); first | (exfalso; first | contradiction | omega) | (go_simp; (try (simp only [↓IntWalk.iteOmega]; try go_simp)); (try simp (disch := omega) only [IntWalk.i64_in]); (try simp (disch := omega) only [IntWalk.u64_in]); first | (refine hK _ ?_; clear hK K) | (apply Exists.intro; refine ⟨fun x => ?_, hK _ ?_⟩; (first | fail); clear hK K))))))); all_goals ((apply gLex_end); intro y))
    go_wp2_with fail
    have hgy : Grows w y.now := (by repeat (first | exact Grows.refl _ | refine Grows.now ?_ _ | refine Grows.new ?_ _ | refine Grows.drewN ?_ _ | refine Grows.drew ?_ | assumption | (refine Grows.set ?_ (by first | omega | (simp; done) | (simp; omega)) _)))
    go_ret
    exact ⟨rfl, ⟨m, (HH.out.put hgy i v hi 0).1⟩, ((hgy.touch _).set (.inl (.inr rfl)) _).set (.inl (.inr rfl)) _⟩
  · have hb : ((t : Int) == 1) = false := beq_eq_false_iff_ne.2 (by omega)
    have hb2 : ((t : Int) != 1) = true := by simp [bne, hb]
    clear ht
    go_enter Try.func163, Try.ntmps163
    go_wp2_with (go_at_call 167; refine (stAt b g _ _ _ _ i _ HR.out hi).mono ?_; rintro e w' ⟨rfl, rfl⟩)
    ((first | refine wp_region_gen2 (by kernel_rfl) (by kernel_rfl) ?_ | refine wp_region_gen (by kernel_rfl) (by kernel_rfl) ?_); (repeat' (first | (refine gLex_val0 rfl (by kernel_rfl) (fun K hK => ?_); (go_simp; (try (simp only [↓IntWalk.iteOmega]; try go_simp)); (try simp (disch := omega) only [IntWalk.i64_in]); (try simp (disch := omega) only [IntWalk.u64_in]); first | (refine hK _ ?_; clear hK K) | (apply Exists.intro; refine ⟨fun x => ?_, hK _ ?_⟩; (first | fail); clear hK K))) | (refine gLex_undef rfl rfl rfl (by kernel_rfl) (fun K hK => ?_); go_simp; refine hK _ ?_; clear hK K) | (refine gLex_ask rfl rfl rfl ?_; first | (apply gAsk_yes; kernel_rfl; intro K hK; (go_simp; (try (simp only [↓IntWalk.iteOmega]; try go_simp)); (try simp (disch := omega) only [IntWalk.i64_in]); (try simp (disch := omega) only [IntWalk.u64_in]); first | (refine hK _ ?_; clear hK K) | (apply Exists.intro; refine ⟨fun x => ?_, hK _ ?_⟩; (first | fail); clear hK K))) | ((first | apply gAsk_no1 | apply gAsk_no2); kernel_rfl; intro K hK; simp [go_sem]; refine hK _ ?_; clear hK K) | (apply gAsk_part; kernel_rfl; all_goals (intro h K hK; (try simp only [Bool.not_true] at h); (try simp only [Bool.not_false] at h); (try simp only [decide_eq_true_eq] at h); (try simp only [decide_eq_false_iff_not] at h); first | (exfalso; first | contradiction | omega) | (go_simp; (try (simp only [↓IntWalk.iteOmega]; try go_simp)); (try simp (disch := omega) only [IntWalk.i64_in]); (try simp (disch := omega) only [IntWalk.u64_in]); first | (refine hK _ ?_; clear hK K) | (apply Exists.intro; refine ⟨fun x => ?_, hK _ ?_⟩; (first | fail); clear hK K))))))); all_goals ((apply gLex_end); intro y))
    go_upto_region 6 with fail
    have hgy : Grows w y.now := (by repeat (first | exact Grows.refl _ | refine Grows.now ?_ _ | refine Grows.new ?_ _ | refine Grows.drewN ?_ _ | refine Grows.drew ?_ | assumption | (refine Grows.set ?_ (by first | omega | (simp; done) | (simp; omega)) _)))
    have n0 : Mine (y.now.setCell ⟨b, 2, none⟩ (.int .i64 (wrap64 (m + 1)))) ⟨g, i * 2, none⟩ _ := Mine.set_other inferInstance _ (by intro e; injection e with e; exact HNE.out e.symm)
    have n1 : Mine (y.now.setCell ⟨b, 2, none⟩ (.int .i64 (wrap64 (m + 1)))) ⟨g, i * 2 + 1, none⟩ _ := Mine.set_other inferInstance _ (by intro e; injection e with e; exact HNE.out e.symm)
    have n2 : Mine (y.now.setCell ⟨b, 2, none⟩ (.int .i64 (wrap64 (m + 1)))) ⟨b, 1, none⟩ (.int .u64 1) := Mine.set_other inferInstance _ (by intro e; injection e with _ e; cases e)
    go_wp2_with fail
    go_ret
    exact ⟨rfl, ⟨_, (HH.out.put hgy i v hi _).2⟩, (((hgy.touch _).set (.inl (.inl rfl)) _).set (.inl (.inr rfl)) _).set (.inl (.inr rfl)) _⟩
/-- What each place has. -/
def stD (L : List (Nat × Nat)) (i : Nat) : Option Nat := if (gp L i).2 = 1 then some (gp L i).1 else none
/-- May a number be put there, as less than what is there? -/
def lessB (o : Option Nat) (v : Nat) : Bool := match o with | none => true | some u => decide (v < u)
def GiveLeast (w : World) (b g : Nat) (L : List (Nat × Nat)) (i v : Nat) (r : Bool) (e : Ending) (w' : World) : Prop :=
  e = .returned (.bool r) ∧ (∃ m', StL w' b g (if r then L.set i (v, 1) else L) m') ∧ Touch (fun k => k = b ∨ k = g) w w'
set_option maxHeartbeats 2000000 in
theorem stLeast (b g : Nat) (L : List (Nat × Nat)) (m : Int) (i v : Nat) (w : World) (h : StL w b g L m) (hi : i < L.length) :
    Calls Try.prog 124 #[.pointer (some ⟨b, 0, none⟩), .int .i64 (i : Int), .int .u64 (v : Int)] w (GiveLeast w b g L i v (lessB (stD L i) v)) := by
  have HH := hide h
  have CG := hide (fun (W : World) (hg : Grows w W) => stGet b g L m i W (h.grow hg) hi)
  have CP := hide (fun (W : World) (hg : Grows w W) => stPut b g L m i v W (h.grow hg) hi)
  clear h
  unfold stD
  generalize hp : gp L i = p at *
  obtain ⟨x, t⟩ := p
  dsimp only at *
  clear hp
  by_cases ht : t = 1
  · subst ht
    by_cases hv : v < x
    · have hd : decide ((x : Int) ≤ (v : Int)) = false := decide_eq_false (by omega)
      have hd1 : decide (x ≤ v) = false := decide_eq_false (by omega)
      have HV : lessB (if (1 : Nat) = 1 then some x else none) v = true := decide_eq_true hv
      rw [HV]
      clear hv HV
      go_enter Try.func124, Try.ntmps124
      go_wp2_with (first
        | (go_at_call 127; refine (CG.out _ (by repeat (first | exact Grows.refl _ | refine Grows.now ?_ _ | refine Grows.new ?_ _ | refine Grows.drewN ?_ _ | refine Grows.drew ?_ | assumption | (refine Grows.set ?_ (by first | omega | (simp; done) | (simp; omega)) _)))).mono ?_; rintro e w' ⟨rfl, hg⟩; obtain ⟨y, rfl⟩ := hg.later; clear hg)
        | (go_at_call 163; refine (CP.out _ (by repeat (first | exact Grows.refl _ | refine Grows.now ?_ _ | refine Grows.new ?_ _ | refine Grows.drewN ?_ _ | refine Grows.drew ?_ | assumption | (refine Grows.set ?_ (by first | omega | (simp; done) | (simp; omega)) _)))).mono ?_; rintro e w' ⟨rfl, hs, ht⟩; have HS := hide hs; have HT := hide ht; clear hs ht))
      have hgy : Grows w y.now := (by repeat (first | exact Grows.refl _ | refine Grows.now ?_ _ | refine Grows.new ?_ _ | refine Grows.drewN ?_ _ | refine Grows.drew ?_ | assumption | (refine Grows.set ?_ (by first | omega | (simp; done) | (simp; omega)) _)))
      go_ret
      exact ⟨rfl, HS.out, (hgy.touch _).trans HT.out⟩
    · have hd : decide ((x : Int) ≤ (v : Int)) = true := decide_eq_true (by omega)
      have hd1 : decide (x ≤ v) = true := decide_eq_true (by omega)
      have HV : lessB (if (1 : Nat) = 1 then some x else none) v = false := decide_eq_false hv
      rw [HV]
      clear hv HV
      go_enter Try.func124, Try.ntmps124
      go_wp2_with (first
        | (go_at_call 127; refine (CG.out _ (by repeat (first | exact Grows.refl _ | refine Grows.now ?_ _ | refine Grows.new ?_ _ | refine Grows.drewN ?_ _ | refine Grows.drew ?_ | assumption | (refine Grows.set ?_ (by first | omega | (simp; done) | (simp; omega)) _)))).mono ?_; rintro e w' ⟨rfl, hg⟩; obtain ⟨y, rfl⟩ := hg.later; clear hg))
      have hgy : Grows w y.now := (by repeat (first | exact Grows.refl _ | refine Grows.now ?_ _ | refine Grows.new ?_ _ | refine Grows.drewN ?_ _ | refine Grows.drew ?_ | assumption | (refine Grows.set ?_ (by first | omega | (simp; done) | (simp; omega)) _)))
      go_ret
      exact ⟨rfl, ⟨m, HH.out.grow hgy⟩, hgy.touch _⟩
  · rw [if_neg ht]
    have HV : lessB none v = true := rfl
    rw [HV]
    rw [if_neg ht, decide_eq_false ht] at CG
    clear ht HV
    go_enter Try.func124, Try.ntmps124
    go_wp2_with (first
      | (go_at_call 127; refine (CG.out _ (by repeat (first | exact Grows.refl _ | refine Grows.now ?_ _ | refine Grows.new ?_ _ | refine Grows.drewN ?_ _ | refine Grows.drew ?_ | assumption | (refine Grows.set ?_ (by first | omega | (simp; done) | (simp; omega)) _)))).mono ?_; rintro e w' ⟨rfl, hg⟩; obtain ⟨y, rfl⟩ := hg.later; clear hg)
      | (go_at_call 163; refine (CP.out _ (by repeat (first | exact Grows.refl _ | refine Grows.now ?_ _ | refine Grows.new ?_ _ | refine Grows.drewN ?_ _ | refine Grows.drew ?_ | assumption | (refine Grows.set ?_ (by first | omega | (simp; done) | (simp; omega)) _)))).mono ?_; rintro e w' ⟨rfl, hs, ht⟩; have HS := hide hs; have HT := hide ht; clear hs ht))
    have hgy : Grows w y.now := (by repeat (first | exact Grows.refl _ | refine Grows.now ?_ _ | refine Grows.new ?_ _ | refine Grows.drewN ?_ _ | refine Grows.drew ?_ | assumption | (refine Grows.set ?_ (by first | omega | (simp; done) | (simp; omega)) _)))
    go_ret
    exact ⟨rfl, HS.out, (hgy.touch _).trans HT.out⟩
end Go.Proofs.Ytiljgkaffgclgaa

/- Plain law: items, each ahead of both below it; where each number is. -/
namespace Go.Proofs.Ytiljgkaffgclgaa
abbrev Itm := Nat × Nat
def gi2 (L : List Itm) (i : Nat) : Itm := L.getD i (0, 0)
def gz (T : List Int) (v : Nat) : Int := T.getD v 0
/-- Does one come ahead of another one? -/
def ahead (a b : Itm) : Bool := decide (a.2 < b.2 ∨ a.2 = b.2 ∧ a.1 < b.1)
/-- Items, and where each number is. -/
structure HS where
  L : List Itm
  T : List Int
def HS.lay (s : HS) (i : Nat) (x : Itm) : HS := ⟨s.L.set i x, s.T.set x.1 (i : Int)⟩
theorem HS.lay_len (s : HS) (i : Nat) (x : Itm) : (s.lay i x).L.length = s.L.length ∧ (s.lay i x).T.length = s.T.length := by simp [HS.lay]
/-- From a place up, to where it belongs. -/
def HS.rise (s : HS) (i : Nat) (x : Itm) : HS :=
  if _h : 0 < i ∧ ahead x (gi2 s.L ((i - 1) / 2)) = true then HS.rise (s.lay i (gi2 s.L ((i - 1) / 2))) ((i - 1) / 2) x else s.lay i x
termination_by i
decreasing_by omega
/-- The lesser one of both below. -/
def HS.low (s : HS) (i : Nat) : Nat := if 2 * i + 1 + 1 < s.L.length ∧ ahead (gi2 s.L (2 * i + 1 + 1)) (gi2 s.L (2 * i + 1)) = true then 2 * i + 1 + 1 else 2 * i + 1
theorem HS.low_gt (s : HS) (i : Nat) : i < s.low i := by unfold HS.low; split <;> omega
def HS.sink (s : HS) (i : Nat) (x : Itm) : HS :=
  if _h : s.low i < s.L.length ∧ ahead (gi2 s.L (s.low i)) x = true then HS.sink (s.lay i (gi2 s.L (s.low i))) (s.low i) x else s.lay i x
termination_by s.L.length - i
decreasing_by
  have := HS.low_gt s i
  have := (HS.lay_len s i (gi2 s.L (s.low i))).1
  omega
/-- Behind 'put'; was it put? -/
def HS.put (s : HS) (v key : Nat) : HS × Bool :=
  if gz s.T v = -1 then (HS.rise ⟨s.L ++ [(v, key)], s.T⟩ s.L.length (v, key), true)
  else if (gi2 s.L (gz s.T v).toNat).2 ≤ key then (s, false) else (s.rise (gz s.T v).toNat (v, key), true)
/-- Behind 'drop' of what is there. -/
def HS.drop (s : HS) (v : Nat) : HS :=
  let i := (gz s.T v).toNat
  let last := s.L.length - 1
  let x := gi2 s.L last
  let s1 : HS := ⟨s.L.take last, s.T.set v (-1)⟩
  if i = last then s1 else
    let s2 := s1.sink i x
    if gz s2.T x.1 = (i : Int) then s2.rise i x else s2
/-- The numbers that items bear are less than N; so many places. -/
def HS.In (s : HS) (N : Nat) : Prop := s.T.length = N ∧ ∀ i, i < s.L.length → (gi2 s.L i).1 < N
theorem gi2_set (L : List Itm) (i j : Nat) (x : Itm) (hi : i < L.length) : gi2 (L.set i x) j = if j = i then x else gi2 L j := by
  unfold gi2
  by_cases h : j = i
  · subst h; simp [hi]
  · simp [h, Ne.symm h]
theorem HS.In.lay {s : HS} {N : Nat} (h : s.In N) (i : Nat) (x : Itm) (hx : x.1 < N) : (s.lay i x).In N := by
  refine ⟨by rw [(HS.lay_len s i x).2]; exact h.1, fun j hj => ?_⟩
  rw [(HS.lay_len s i x).1] at hj
  unfold HS.lay
  by_cases hi : i < s.L.length
  · rw [gi2_set _ _ _ _ hi]
    split
    · exact hx
    · exact h.2 j hj
  · have : s.L.set i x = s.L := List.set_eq_of_length_le (by omega)
    simp only [this]
    exact h.2 j hj
theorem HS.rise_len (s : HS) (i : Nat) (x : Itm) : (s.rise i x).L.length = s.L.length ∧ (s.rise i x).T.length = s.T.length := by
  induction i using Nat.strongRecOn generalizing s with
  | _ i ih =>
    rw [HS.rise]
    split
    · rename_i h
      have h1 := ih ((i - 1) / 2) (by omega) (s.lay i (gi2 s.L ((i - 1) / 2)))
      have h2 := HS.lay_len s i (gi2 s.L ((i - 1) / 2))
      omega
    · exact HS.lay_len s i x
theorem HS.rise_in {s : HS} {N : Nat} (h : s.In N) (i : Nat) (x : Itm) (hx : x.1 < N) (hi : i < s.L.length) : (s.rise i x).In N := by
  induction i using Nat.strongRecOn generalizing s with
  | _ i ih =>
    rw [HS.rise]
    split
    · rename_i hc
      exact ih ((i - 1) / 2) (by omega) (h.lay i _ (h.2 _ (by omega))) (by rw [(HS.lay_len _ _ _).1]; omega)
    · exact h.lay i x hx
end Go.Proofs.Ytiljgkaffgclgaa

/- Contracts: a heap in memory; an item laid, less, from a place up. -/
namespace Go.Proofs.Ytiljgkaffgclgaa
open Go Go.RowKit
def itCells (p : Itm) : List Value := [.int .i64 (p.1 : Int), .int .u64 (p.2 : Int)]
def its (L : List Itm) : List Value := L.flatMap itCells
def itVal (p : Itm) : Value := .agg #[.int .i64 (p.1 : Int), .int .u64 (p.2 : Int)]
theorem its_len (L : List Itm) : (its L).length = L.length * 2 := flat_len itCells 2 (fun _ => rfl) L
theorem its_at (L : List Itm) (i j : Nat) (hi : i < L.length) (hj : j < 2) : (its L)[i * 2 + j]? = (itCells (gi2 L i))[j]? := flat_get itCells 2 (fun _ => rfl) (0, 0) L i j hi hj
theorem its_app (L : List Itm) (p : Itm) : its (L ++ [p]) = its L ++ itCells p := by simp [its]
theorem its_set (L : List Itm) (i : Nat) (p : Itm) (hi : i < L.length) : ((its L).set (i * 2) (.int .i64 (p.1 : Int))).set (i * 2 + 1) (.int .u64 (p.2 : Int)) = its (L.set i p) := by
  apply List.ext_getElem?
  intro k
  have hk : k = k / 2 * 2 + k % 2 := (Nat.div_add_mod' k 2).symm
  have hm : k % 2 < 2 := Nat.mod_lt _ (by omega)
  have hl := its_len L
  have hl2 := its_len (L.set i p)
  rw [List.length_set] at hl2
  rcases Nat.lt_or_ge (k / 2) L.length with hlt | hge
  · have h1 := its_at L (k / 2) (k % 2) hlt hm
    have h2 := its_at (L.set i p) (k / 2) (k % 2) (by simpa using hlt) hm
    rw [← hk] at h1 h2
    rw [h2, gi2_set _ _ _ _ hi]
    by_cases he : k / 2 = i
    · rw [if_pos he]
      rcases (by omega : k = i * 2 ∨ k = i * 2 + 1) with e | e
      · have e2 : k % 2 = 0 := by omega
        rw [List.getElem?_set_ne (by omega), e, List.getElem?_set_self (by omega)]
        rw [e] at e2
        rw [e2]; rfl
      · have e2 : k % 2 = 1 := by omega
        rw [e, List.getElem?_set_self (by simp; omega)]
        rw [e] at e2
        rw [e2]; rfl
    · rw [if_neg he, List.getElem?_set_ne (by omega), List.getElem?_set_ne (by omega), h1]
  · rw [List.getElem?_eq_none (by simp; omega), List.getElem?_eq_none (by omega)]
/-- A heap in the blocks of S. -/
def HpAt (w : World) (S : Nat → Prop) (b : Nat) (s : HS) : Prop :=
  ∃ A c G, Arr w b 196 [.slice A s.L.length c, .slice (some ⟨G, 0, none⟩) s.T.length s.T.length] ∧ Own w 0 198 2 A s.L.length c (its s.L) ∧ Row1 w G 3 1 s.T.length s.T.length (s.T.map (.int .i64)) ∧ S b ∧ S G ∧ ∀ p, A = some p → S p.block
theorem Own.touch {w w' : World} {B n c size : Nat} {e : TypeId} {A : Option Addr} {xs : List Value} {S : Nat → Prop} (h : Own w B e size A n c xs) (ht : Touch S w w') (hs : ∀ p, A = some p → ¬ S p.block) : Own w' B e size A n c xs := by
  refine ⟨h.1, ?_⟩
  rcases h.2 with h1 | ⟨g, cap, cur, h1, h2, h3, h4⟩
  · exact .inl h1
  · refine .inr ⟨g, cap, cur, h1, h2, ht.at (hs ⟨g, 0, none⟩ ?_) h3, h4⟩
    injection h1
theorem HpAt.touch {w w' : World} {S S' : Nat → Prop} {b : Nat} {s : HS} (h : HpAt w S b s) (ht : Touch S' w w') (hs : ∀ k, S k → ¬ S' k) : HpAt w' S b s := by
  obtain ⟨A, c, G, h1, h2, h3, h4, h5, h6⟩ := h
  exact ⟨A, c, G, h1.touch ht (hs _ h4), h2.touch ht (fun p hp => hs _ (h6 p hp)), h3.touch ht (hs _ h5), h4, h5, h6⟩
theorem HpAt.grow {w w' : World} {S : Nat → Prop} {b : Nat} {s : HS} (h : HpAt w S b s) (hg : Grows w w') : HpAt w' S b s := h.touch (hg.touch (fun _ => False)) (fun _ _ => id)
theorem HpAt.mono {w : World} {S S' : Nat → Prop} {b : Nat} {s : HS} (h : HpAt w S b s) (hs : ∀ k, S k → S' k) : HpAt w S' b s := by
  obtain ⟨A, c, G, h1, h2, h3, h4, h5, h6⟩ := h
  exact ⟨A, c, G, h1, h2, h3, hs _ h4, hs _ h5, fun p hp => hs _ (h6 p hp)⟩
/-- Where an item lies. -/
theorem Own.item {w : World} {B n c : Nat} {e : TypeId} {A : Option Addr} {L : List Itm} (h : Own w B e 2 A n c (its L)) {i : Nat} (hi : i < n) :
    ∃ g, A = some ⟨g, 0, none⟩ ∧ Mine w ⟨g, i * 2, none⟩ (.int .i64 ((gi2 L i).1 : Int)) ∧ Mine w ⟨g, i * 2 + 1, none⟩ (.int .u64 ((gi2 L i).2 : Int)) := by
  have hl := h.len
  rw [its_len] at hl
  obtain ⟨g, cur, rfl, _⟩ := h.at_ (by omega)
  have hr := (Own.row h).1
  refine ⟨g, rfl, hr.mine ?_, hr.mine ?_⟩
  · have := its_at L i 0 (by omega) (by omega)
    rw [Nat.add_zero] at this
    rw [this]; rfl
  · rw [its_at L i 1 (by omega) (by omega)]; rfl
set_option maxHeartbeats 1000000 in
theorem hpLess (x y : Itm) (w : World) : Calls Try.prog 187 #[itVal x, itVal y] w fun e w' => e = .returned (.bool (ahead x y)) ∧ Grows w w' := by
  obtain ⟨a, k⟩ := x
  obtain ⟨c, l⟩ := y
  unfold itVal
  dsimp only
  rcases Nat.lt_trichotomy k l with h | h | h
  · have HA : ahead (a, k) (c, l) = true := decide_eq_true (.inl h)
    rw [HA]
    have d1 : decide ((k : Int) < (l : Int)) = true := decide_eq_true (by omega)
    have d2 : decide (k < l) = true := decide_eq_true h
    clear h HA
    go_enter Try.func187, Try.ntmps187
    go_wp2
    go_ret
    exact ⟨rfl, (by repeat (first | exact Grows.refl _ | refine Grows.now ?_ _ | refine Grows.new ?_ _ | refine Grows.drewN ?_ _ | refine Grows.drew ?_ | assumption | (refine Grows.set ?_ (by first | omega | (simp; done) | (simp; omega)) _)))⟩
  · subst h
    have HA : ahead (a, k) (c, k) = decide (a < c) := by simp [ahead]
    rw [HA]
    have HD : Hid (decide ((a : Int) < (c : Int)) = decide (a < c)) := by simp [Hid]
    clear HA
    go_enter Try.func187, Try.ntmps187
    go_wp2
    all_goals go_ret
    all_goals refine ⟨?_, (by repeat (first | exact Grows.refl _ | refine Grows.now ?_ _ | refine Grows.new ?_ _ | refine Grows.drewN ?_ _ | refine Grows.drew ?_ | assumption | (refine Grows.set ?_ (by first | omega | (simp; done) | (simp; omega)) _)))⟩
    all_goals first | rfl | simp [HD.out]
  · have HA : ahead (a, k) (c, l) = false := decide_eq_false (by dsimp only; omega)
    rw [HA]
    have d1 : decide ((k : Int) < (l : Int)) = false := decide_eq_false (by omega)
    have d2 : decide (k < l) = false := decide_eq_false (by omega)
    have d3 : ((k : Int) == (l : Int)) = false := beq_eq_false_iff_ne.2 (by omega)
    have d4 : (k == l) = false := beq_eq_false_iff_ne.2 (by omega)
    have d5 : ¬ k = l := by omega
    clear h HA
    go_enter Try.func187, Try.ntmps187
    go_wp2
    go_ret
    exact ⟨rfl, (by repeat (first | exact Grows.refl _ | refine Grows.now ?_ _ | refine Grows.new ?_ _ | refine Grows.drewN ?_ _ | refine Grows.drew ?_ | assumption | (refine Grows.set ?_ (by first | omega | (simp; done) | (simp; omega)) _)))⟩
theorem HpAt.lay {w W : World} {b g c G : Nat} {s : HS} (i : Nat) (x : Itm) (h1 : Arr w b 196 [.slice (some ⟨g, 0, none⟩) s.L.length c, .slice (some ⟨G, 0, none⟩) s.T.length s.T.length]) (h2 : Own w 0 198 2 (some ⟨g, 0, none⟩) s.L.length c (its s.L))
    (h3 : Row1 w G 3 1 s.T.length s.T.length (s.T.map (.int .i64))) (hg : Grows w W) (hi : i < s.L.length) {S : Nat → Prop} (s1 : S b) (s2 : S G) (s3 : S g) :
    HpAt (((W.setCell ⟨g, i * 2, none⟩ (.int .i64 (x.1 : Int))).setCell ⟨g, i * 2 + 1, none⟩ (.int .u64 (x.2 : Int))).setCell ⟨G, x.1, none⟩ (.int .i64 (i : Int))) S b (s.lay i x) := by
  have hr := (Own.row h2).1
  have n1 := hr.ne h1 (by decide)
  have n2 := h3.ne h1 (by decide)
  have n3 := hr.ne2 h3 (by decide)
  have e := its_set s.L i x hi
  refine ⟨some ⟨g, 0, none⟩, c, G, ?_, ?_, ?_, s1, s2, fun p hp => by injection hp with hp; subst hp; exact s3⟩
  · rw [(HS.lay_len s i x).1, (HS.lay_len s i x).2]
    exact (((h1.grow hg).other n1 _).other n1 _).other n2 _
  · rw [(HS.lay_len s i x).1]
    show Own _ _ _ _ _ _ _ (its (s.L.set i x))
    rw [← e]
    exact ((((hr.grow hg).set _ _).set _ _).other (Ne.symm n3) _).own (Nat.zero_le _)
  · rw [(HS.lay_len s i x).2]
    have : (s.lay i x).T.map (Value.int .i64) = (s.T.map (Value.int .i64)).set x.1 (.int .i64 (i : Int)) := by simp [HS.lay, List.map_set]
    rw [this]
    exact (((h3.grow hg).other n3 _).other n3 _).set _ _
set_option maxRecDepth 20000 in
set_option maxHeartbeats 2000000 in
theorem hpLay (b : Nat) (s : HS) (i : Nat) (x : Itm) (S : Nat → Prop) (w : World) (h : HpAt w S b s) (hi : i < s.L.length) (hx : x.1 < s.T.length) :
    Calls Try.prog 188 #[.pointer (some ⟨b, 0, none⟩), .int .i64 (i : Int), itVal x] w fun e w' => e = .returned (.tuple #[]) ∧ HpAt w' S b (s.lay i x) ∧ Touch S w w' := by
  obtain ⟨A, c, G, h1, h2, h3, h4, h5, h6⟩ := h
  obtain ⟨g, rfl, m1, m2⟩ := h2.item hi
  have m3 := h3.int hx
  have h7 := h6 _ rfl
  have H2 := hide h2
  have H3 := hide h3
  have HR := hide h1
  have hr := (Own.row h2).1
  have n1 : ¬ g = b := hr.ne h1 (by decide)
  have n2 : ¬ G = b := h3.ne h1 (by decide)
  have n3 : ¬ g = G := hr.ne2 h3 (by decide)
  have n4 : ¬ g = w.heap.size := by have := hr.lt; omega
  clear h2 h3 h6 hr
  unfold itVal
  go_enter Try.func188, Try.ntmps188
  go_wp2_with fail
  go_region_with fail
  all_goals go_wp2_with fail
  all_goals go_end0
  all_goals exact ⟨rfl, (HpAt.lay i x HR.out H2.out H3.out ((Grows.refl w).new _) hi h4 h5 h7).grow (Grows.refl _).drew, ((((((Grows.refl w).new _).touch S).set (.inl h7) _).set (.inl h7) _).set (.inl h5) _).drew⟩
end Go.Proofs.Ytiljgkaffgclgaa
