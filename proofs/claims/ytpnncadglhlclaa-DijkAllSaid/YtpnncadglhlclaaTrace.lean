/- A search's trace: the nodes in the order in which a search takes them. -/
import Derived.Test.YtpnncadglhlclaaSearch
namespace Go.Proofs.Ytpnncadglhlclaa
open Go Go.RowKit
/-- An edge's other end. -/
def toE (x : Srch) (i : Nat) : Nat := if x.back then fN x.E i else tN x.E i
abbrev St := List (Nat × Nat) × HS
/-- One edge of a node that is f far. -/
def stepE (x : Srch) (f : Nat) (st : St) (i : Nat) : St := if (!x.ne i && !x.nn (toE x i)) = true then reachS x.most st (toE x i) (f + gn x.W i) else st
def stepK (x : Srch) (f : Nat) (st : St) (l : List Nat) : St := l.foldl (stepE x f) st
def rowX (x : Srch) (v : Nat) : List Nat := rowN (nN x.E x.back) x.E.length v
theorem stepK_snoc (x : Srch) (f : Nat) (st : St) (l : List Nat) (i : Nat) : stepK x f st (l ++ [i]) = stepE x f (stepK x f st l) i := by simp [stepK, List.foldl_append]
/-- A node is taken, and what comes of it can be reckoned. -/
structure StepOk (x : Srch) (st : St) (v f : Nat) : Prop where
  top : gi2 st.2.L 0 = (v, f)
  pos : 0 < st.2.L.length
  lies : ∃ i : Nat, gz st.2.T v = (i : Int) ∧ i < st.2.L.length
  len : st.2.L.length ≤ 90000
  rounds : ∀ l r, rowX x v = l ++ r → HOk (stepK x f (st.1, st.2.drop v) l).2 x.N
  far : ∀ i, i < x.E.length → f + gn x.W i < 18446744073709551616
/-- The nodes, and how far each is, in the order in which a search takes them. -/
inductive Trace (x : Srch) : St → List (Nat × Nat) → Prop
  | done {st : St} : st.2.L.length = 0 → Trace x st []
  | step {st : St} {v f : Nat} {xs : List (Nat × Nat)} : StepOk x st v f → Trace x (stepK x f (st.1, st.2.drop v) (rowX x v)) xs → Trace x st ((v, f) :: xs)
structure SrchOk (x : Srch) : Prop where
  ends : InN x.N x.E
  edges : x.E.length ≤ 65536
  nodes : x.N ≤ 65536
  wts : x.W.length = x.E.length
  most : x.most < 18446744073709551616
def encD (p : Nat × Nat) : Array Value := #[.int .i64 (p.1 : Int), .int .u64 (p.2 : Int)]
theorem drop_all_in {s : HS} {N v i : Nat} (h : s.In N) (hz : gz s.T v = (i : Int)) (hi : i < s.L.length) : (s.drop v).In N := by
  unfold HS.drop
  rw [hz, Int.toNat_natCast]
  have hx : (gi2 s.L (s.L.length - 1)).1 < N := h.2 _ (by omega)
  by_cases he : i = s.L.length - 1
  · rw [if_pos he]
    exact drop_in h v
  · rw [if_neg he]
    have h1 := HS.sink_in (drop_in (last := s.L.length - 1) h v) i (gi2 s.L (s.L.length - 1)) hx
    by_cases h2 : gz ((⟨s.L.take (s.L.length - 1), s.T.set v (-1)⟩ : HS).sink i (gi2 s.L (s.L.length - 1))).T (gi2 s.L (s.L.length - 1)).1 = (i : Int)
    · show HS.In (if _ then _ else _) N
      rw [if_pos h2]
      refine HS.rise_in h1.1 _ _ hx ?_
      rw [h1.2]
      simp
      omega
    · show HS.In (if _ then _ else _) N
      rw [if_neg h2]
      exact h1.1
end Go.Proofs.Ytpnncadglhlclaa
