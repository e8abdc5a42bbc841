/- Regions that draw their order, inside a round of a range over a function: the same one walk. -/
import Derived.Test.YteodapefimlakaaQContractBuilds00
import Derived.OrdersIn
import Derived.TacticsIn
import Derived.Test.YteodapefimlakaaQContractBuilds06
import Derived.Test.YteodapefimlakaaQContractBuilds03
import Derived.RangeFuncNested
import Derived.RangeFuncBound
import Derived.Shelf.Abstract
import Derived.Shelf.RegionOpen
import Derived.OwnWalkIn
import Derived.TacticsInMore
import Derived.LoopNIn
import Derived.LoopIn
/- Regions that draw their order, inside a round of a range over a function: the same one walk. -/
namespace Go.Proofs.Yteodapefimlakaa
open Go Go.RowKit

structure WideF (F : Fence) : Prop where
  fn : ∀ f, F.fn f
  calls : ∀ (n : Nat) (P : Program) (f : FuncId) (args : Array Value) (w : World) (R : Ending → World → Prop), Calls P f args w R → CallsIn F n P f args w R
  depth : F.depth = none
theorem wideF_wide : WideF Fence.wide := ⟨fun _ => trivial, fun _ _ _ _ _ _ h => callsIn_wide.2 h, rfl⟩
theorem wideF_round (l : Nat) : WideF (Fence.wide.inRound l) := ⟨fun _ => trivial, fun _ _ _ _ _ _ h => callsIn_wide.2 h, rfl⟩

theorem wide_fn (f : FuncId) : Fence.wide.fn f = True := rfl
theorem wide_depth : Fence.wide.depth = none := rfl
attribute [go_sem] wide_fn wide_depth

def noDefer (l : List Oper) : Bool := l.all fun o => match o.op with | .defer _ => false | _ => true

section
variable {F : Fence} {m : Nat} {P : Program} {ops : Array Oper} {md : Region.Mode} {w0 : World}

theorem semAt_of {o : Oper} (h : (match o.op with | .defer _ => false | _ => true) = true) (r : Option Nat) (ρ : Operand → Value) : o.semAt r ρ = execOp ρ o := by
  cases r with
  | none => exact Oper.semAt_none ρ o
  | some l => exact Oper.semAt_some l ρ o fun c e => by rw [e] at h; cases h

theorem wpIn_of_runs (hF : WideF F) {o : Oper} (hd : (match o.op with | .defer _ => false | _ => true) = true) {a' : Act} {w : World} {q : Value → World → Prop} {K : Act → World → Prop} {Q : Exit → Act → World → Prop}
    (hrun : runsTo P q ((execOp a'.eval o).run P w)) (hK : ∀ u w', q u w' → K (a'.put o.dst u) w') : o.wpIn F m P a' w K Q := by
  unfold Oper.wpIn
  refine ⟨fun f _ => hF.fn f, ?_⟩
  rw [semAt_of hd]
  generalize (execOp a'.eval o).run P w = res at hrun
  cases res with
  | halt x w' => simp only [runsTo] at hrun
  | ok x w' =>
    cases x <;> simp only [runsTo] at hrun <;> simp only [Oper.uponIn]
    case value u => exact hK _ _ hrun
    case skip => exact hK _ _ hrun
    case enter f args =>
      refine ⟨fun h => (by rw [hF.depth] at h; cases h), hF.calls _ _ _ _ _ _ (hrun.mono fun e w'' ⟨u, he, hq⟩ => ?_)⟩
      subst he
      exact hK _ _ hq

theorem wpAnyIn_of_gAny (hF : WideF F) (hnd : ∀ o ∈ ops.toList, (match o.op with | .defer _ => false | _ => true) = true) {Q : Exit → Act → World → Prop} : ∀ (n : Nat) (l : Array Bool) (a : Act) (G : Env) (a' : Act) (w : World), Grows w0 w → AllLast G → Conc G a a' w →
    gAny P md ops w0 (fun a G => ∀ w, Grows w0 w → ∀ a', Conc G a a' w → Q .normal a' w) n l a G → wpAnyIn F m P md ops Q n l a' w
  | 0, _, _, _, _, _, hw, _, hc, h => ⟨h.1, h.2 _ hw _ hc⟩
  | n + 1, l, a, G, a', w, hw, hG, hc, h => by
    refine ⟨fun h0 => h.1 h0 _ hw _ hc, fun i hi => ?_⟩
    have h1 := h.2 i hi
    unfold gOp at h1
    unfold wpOpIn
    split
    · rename_i ho
      simp only [ho] at h1
      exact wpAnyIn_of_gAny hF hnd n _ a G a' w hw hG hc h1
    · rename_i o ho
      simp only [ho] at h1
      obtain ⟨r, ⟨hg, hd, hy⟩, hK⟩ := h1
      rw [wanted_conc hg hc]
      rcases hy with ⟨hwant, hl, hf, howe⟩ | ⟨hwant, rfl⟩
      · rw [if_pos hwant]
        exact wpIn_of_runs hF (hnd o (by have := Array.mem_of_getElem? ho; simpa using this)) (howe w hw a' (fun t _ => hc.2 t)) fun u w' hq =>
          wpAnyIn_of_gAny hF hnd n _ _ _ _ _ (hw.trans hq.1) (hG.putG hl) (hc.step hG hq.1 hd hf hq.2) hK
      · rw [hwant]
        simp only [Bool.false_eq_true, if_false]
        refine ⟨fun f _ => hF.fn f, ?_⟩
        have hG0 : putG G o.dst (.inl undef) = G := by cases o.dst <;> rfl
        rw [hG0] at hK
        have hc0 := hc.step hG (Grows.refl w) hd (r := .inl undef) (u := undef) trivial rfl
        rw [hG0] at hc0
        exact wpAnyIn_of_gAny hF hnd n _ _ _ _ _ hw hG hc0 hK

theorem wpIn_region_from (hF : WideF F) {w0 : World} {id : Nat} {Q : Exit → Act → World → Prop} {a : Act} {w : World} {l : List Oper} (hm : P.follows .mixedOrders = true) (hB : Region.lexB .any l.toArray = true) (hnd : noDefer l = true)
    (hw0 : Grows w0 w) (h : gLex P l.toArray w0 (fun a G => ∀ w', Grows w0 w' → ∀ a', Conc G a a' w' → Q .normal a' w') l a Env.no) : (Code.region id l.toArray true).wpIn F m P Q a w := by
  simp only [Region.lexB, Bool.and_eq_true] at hB
  refine wpIn_region_any hm (wpAnyIn_of_gAny hF (by simpa [noDefer, List.all_eq_true] using hnd) (w0 := w0) _ _ a Env.no _ _ (hw0.trans (Grows.drawn w _)) (fun t p h => by cases h) ⟨rfl, fun t => rfl⟩ ?_)
  have := gAny_of_lex (ops := l.toArray) (md := .any) l 0 (Array.replicate l.length false) a Env.no (by simp) (by simpa using hB.2) h
  simpa using this

theorem wpIn_region_gen (hF : WideF F) {id : Nat} {Q : Exit → Act → World → Prop} {a : Act} {w : World} {l : List Oper} (hm : P.follows .mixedOrders = true) (hB : Region.lexB .any l.toArray = true) (hnd : noDefer l = true)
    (h : gLex P l.toArray w (fun a G => ∀ w', Grows w w' → ∀ a', Conc G a a' w' → Q .normal a' w') l a Env.no) : (Code.region id l.toArray true).wpIn F m P Q a w :=
  wpIn_region_from hF hm hB hnd (Grows.refl w) h
theorem wpIn_region_gen2 (hF : WideF F) {id : Nat} {Q : Exit → Act → World → Prop} {a : Act} {w : World} {x : Later w} {l : List Oper} (hm : P.follows .mixedOrders = true) (hB : Region.lexB .any l.toArray = true) (hnd : noDefer l = true)
    (h : gLex P l.toArray w (fun a G => ∀ w', Grows w w' → ∀ a', Conc G a a' w' → Q .normal a' w') l a Env.no) : (Code.region id l.toArray true).wpIn F m P Q a x.now :=
  wpIn_region_from hF hm hB hnd x.grows h
theorem calls_in (hF : WideF F) {f : FuncId} {args : Array Value} {w : World} {R : Ending → World → Prop} (h : Calls P f args w R) : CallsIn F m P f args w R := hF.calls _ _ _ _ _ _ h
end
end Go.Proofs.Yteodapefimlakaa

/- The edges of a node, handed over one by one. -/
namespace Go.Proofs.Yteodapefimlakaa
open Go Go.RowKit
attribute [local go_sem] Oper.semAt_some
def encE (E : List Edg) (i : Nat) : Array Value := #[.int .i64 (i : Int), eVal (ge E i)]
end Go.Proofs.Yteodapefimlakaa

/- Contracts: what a search works with; does an edge count; a node is so far. -/
namespace Go.Proofs.Yteodapefimlakaa
open Go Go.RowKit
section
variable {w : World} {g : Nat} {t : TypeId}
instance Arr.m6 {v0 v1 v2 v3 v4 v5 v : Value} {l : List Value} [h : Arr w g t (v0 :: v1 :: v2 :: v3 :: v4 :: v5 :: v :: l)] : Mine w ⟨g, 6, none⟩ v := h.mine 6 rfl
instance Arr.m7 {v0 v1 v2 v3 v4 v5 v6 v : Value} {l : List Value} [h : Arr w g t (v0 :: v1 :: v2 :: v3 :: v4 :: v5 :: v6 :: v :: l)] : Mine w ⟨g, 7, none⟩ v := h.mine 7 rfl
instance Arr.m8 {v0 v1 v2 v3 v4 v5 v6 v7 v : Value} {l : List Value} [h : Arr w g t (v0 :: v1 :: v2 :: v3 :: v4 :: v5 :: v6 :: v7 :: v :: l)] : Mine w ⟨g, 8, none⟩ v := h.mine 8 rfl
instance Arr.m9 {v0 v1 v2 v3 v4 v5 v6 v7 v8 v : Value} {l : List Value} [h : Arr w g t (v0 :: v1 :: v2 :: v3 :: v4 :: v5 :: v6 :: v7 :: v8 :: v :: l)] : Mine w ⟨g, 9, none⟩ v := h.mine 9 rfl
instance Arr.m10 {v0 v1 v2 v3 v4 v5 v6 v7 v8 v9 v : Value} {l : List Value} [h : Arr w g t (v0 :: v1 :: v2 :: v3 :: v4 :: v5 :: v6 :: v7 :: v8 :: v9 :: v :: l)] : Mine w ⟨g, 10, none⟩ v := h.mine 10 rfl
end
structure Srch where
  N : Nat
  E : List Edg
  back : Bool
  most : Nat
  W : List Nat
  nn : Nat → Bool
  ne : Nat → Bool
def reachS (most : Nat) (st : List (Nat × Nat) × HS) (v f : Nat) : List (Nat × Nat) × HS :=
  if 0 < most ∧ most < f then st else if lessB (stD st.1 v) f then (st.1.set v (f, 1), (st.2.put v f).1) else st
def HOk (s : HS) (N : Nat) : Prop := (∀ v, v < N → gz s.T v = -1 ∨ 0 ≤ gz s.T v ∧ gz s.T v < s.L.length) ∧ s.L.length ≤ 90000
theorem put_keep_in {s : HS} {N v f : Nat} (h : s.In N) (hk : HOk s N) (hv : v < N) : (s.put v f).1.In N := by
  unfold HS.put
  split
  · exact HS.rise_in (put_in h hv) _ _ hv (by simp)
  · split
    · exact h
    · rename_i h1 _
      have := hk.1 v hv
      exact HS.rise_in h _ _ hv (by omega)
end Go.Proofs.Yteodapefimlakaa

/- A search's trace: the nodes in the order in which a search takes them. -/
namespace Go.Proofs.Yteodapefimlakaa
open Go Go.RowKit
def toE (x : Srch) (i : Nat) : Nat := if x.back then fN x.E i else tN x.E i
abbrev St := List (Nat × Nat) × HS
def stepE (x : Srch) (f : Nat) (st : St) (i : Nat) : St := if (!x.ne i && !x.nn (toE x i)) = true then reachS x.most st (toE x i) (f + gn x.W i) else st
def stepK (x : Srch) (f : Nat) (st : St) (l : List Nat) : St := l.foldl (stepE x f) st
def rowX (x : Srch) (v : Nat) : List Nat := rowN (nN x.E x.back) x.E.length v
theorem stepK_snoc (x : Srch) (f : Nat) (st : St) (l : List Nat) (i : Nat) : stepK x f st (l ++ [i]) = stepE x f (stepK x f st l) i := by simp [stepK, List.foldl_append]
structure StepOk (x : Srch) (st : St) (v f : Nat) : Prop where
  top : gi2 st.2.L 0 = (v, f)
  pos : 0 < st.2.L.length
  lies : ∃ i : Nat, gz st.2.T v = (i : Int) ∧ i < st.2.L.length
  len : st.2.L.length ≤ 90000
  rounds : ∀ l r, rowX x v = l ++ r → HOk (stepK x f (st.1, st.2.drop v) l).2 x.N
  far : ∀ i, i < x.E.length → f + gn x.W i < 18446744073709551616
inductive Trace (x : Srch) : St → List (Nat × Nat) → Prop
  | done {st : St} : st.2.L.length = 0 → Trace x st []
  | step {st : St} {v f : Nat} {xs : List (Nat × Nat)} : StepOk x st v f → Trace x (stepK x f (st.1, st.2.drop v) (rowX x v)) xs → Trace x st ((v, f) :: xs)
structure SrchOk (x : Srch) : Prop where
  ends : InN x.N x.E
  edges : x.E.length ≤ 65536
  nodes : x.N ≤ 65536
  wts : x.W.length = x.E.length
  most : x.most < 18446744073709551616
def encD (p : Nat × Nat) : Array Value := #[.int .i64 (p.1 : Int), .int .u64 (p.2 : Int)]
theorem drop_all_in {s : HS} {N v i : Nat} (h : s.In N) (hz : gz s.T v = (i : Int)) (hi : i < s.L.length) : (s.drop v).In N := by
  unfold HS.drop
  rw [hz, Int.toNat_natCast]
  have hx : (gi2 s.L (s.L.length - 1)).1 < N := h.2 _ (by omega)
  by_cases he : i = s.L.length - 1
  · rw [if_pos he]
    exact drop_in h v
  · rw [if_neg he]
    have h1 := HS.sink_in (drop_in (last := s.L.length - 1) h v) i (gi2 s.L (s.L.length - 1)) hx
    by_cases h2 : gz ((⟨s.L.take (s.L.length - 1), s.T.set v (-1)⟩ : HS).sink i (gi2 s.L (s.L.length - 1))).T (gi2 s.L (s.L.length - 1)).1 = (i : Int)
    · show HS.In (if _ then _ else _) N
      rw [if_pos h2]
      refine HS.rise_in h1.1 _ _ hx ?_
      rw [h1.2]
      simp
      omega
    · show HS.In (if _ then _ else _) N
      rw [if_neg h2]
      exact h1.1
end Go.Proofs.Yteodapefimlakaa
