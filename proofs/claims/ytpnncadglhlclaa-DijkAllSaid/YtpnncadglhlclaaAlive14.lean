/- Contracts: the chapter's example; may a graph and what counts be gone through? -/
import Derived.Test.YtpnncadglhlclaaFarLaw
import Derived.Test.YtpnncadglhlclaaLightB
namespace Go.Proofs.Ytpnncadglhlclaa
open Go Go.RowKit
theorem Far.is {x : Srch} {s mw v f : Nat} {xs : List (Nat × Nat)} (h : Far x s mw xs) (hm : x.most = 0) (hv : v < x.N) (h1 : Way x s v f) (h2 : ∀ g, Way x s v g → f ≤ g) : gn (outL x.N xs) v = f := by
  obtain ⟨g, hg, hle⟩ := h.all _ _ h1 (fun h => by omega)
  have := h2 g (h.way _ _ hg).2.1
  rw [outL_at h.nodup hv hg]
  omega
/-- The trace of a search that may be. -/
theorem walk_is {N s mw : Nat} {E : List Edg} {o : DOpt} (hok : WalkOk N s E o) (hw : ∀ i, i < E.length → 1 ≤ gn (wtF N E o.W) i ∧ gn (wtF N E o.W) i ≤ mw) (hmw : mw ≤ 17592186044416) (hnn : (s : Int) ∉ o.nn) :
    ∃ xs, (if (s : Int) ∈ o.nn then xs = [] else Trace (srchOf N E o) (reachS o.most (st0 N) s 0) xs) ∧ Far (srchOf N E o) s mw xs ∧ ∀ p, p ∈ xs → p.1 < N := by
  have hs := hok.srch
  have hin : SrchIn (srchOf N E o) mw := ⟨fun i hi => by
    have h1 := hs.ends.f i hi
    have h2 := hs.ends.t i hi
    unfold toE
    split
    · exact h1.1
    · exact h2.1, fun i hi => (hw i hi).1, fun i hi => (hw i hi).2⟩
  obtain ⟨xs, h1, h2⟩ := trace_whole (x := srchOf N E o) (s := s) hin hs.nodes hok.node (by omega)
  refine ⟨xs, by rw [if_neg hnn]; exact h1, h2, fun p hp => ?_⟩
  obtain ⟨v, f⟩ := p
  exact (h2.way v f hp).1
def exE : List Edg := [⟨0, 1, 2⟩, ⟨1, 2, 3⟩, ⟨0, 2, 9⟩]
def exO : DOpt := ⟨false, [], [], [], 0⟩
theorem exOk : WalkOk 3 0 exE exO := ⟨by decide +kernel, by omega, .inl rfl, by show 0 < _; omega, by show 0 ≤ _; omega, by show 0 ≤ _; omega⟩
def exD (v : Nat) : Nat := if v = 0 then 0 else if v = 1 then 2 else 5
theorem exIs : ∃ xs, (if ((0 : Nat) : Int) ∈ exO.nn then xs = [] else Trace (srchOf 3 exE exO) (reachS exO.most (st0 3) 0 0) xs) ∧ (∀ p, p ∈ xs → p.1 < 3) ∧ outL 3 xs = [0, 2, 5] := by
  have hw : wtF ((3 : Nat) : Int) exE exO.W = [2, 3, 9] := by decide +kernel
  obtain ⟨xs, h1, h2, h3⟩ := walk_is (mw := 9) exOk (fun i hi => by
    have hi : i < 3 := hi
    rw [hw]
    match i, hi with
    | 0, _ => exact ⟨by decide, by decide⟩
    | 1, _ => exact ⟨by decide, by decide⟩
    | 2, _ => exact ⟨by decide, by decide⟩) (by omega) (by simp [exO])
  refine ⟨xs, h1, h3, ?_⟩
  have e0 : ∀ f, Way (srchOf 3 exE exO) 0 0 f → 0 ≤ f := fun f _ => Nat.zero_le f
  have ge : ∀ {v f}, Way (srchOf 3 exE exO) 0 v f → exD v ≤ f := fun {v f} h => Way.ge (x := srchOf 3 exE exO) exD rfl (fun i hi => by
    have hi : i < 3 := hi
    have hww : ∀ j, gn (srchOf 3 exE exO).W j = gn [2, 3, 9] j := fun j => by show gn (wtF ((3 : Nat) : Int) exE exO.W) j = _; rw [hw]
    rw [hww]
    match i, hi with
    | 0, _ => decide
    | 1, _ => decide
    | 2, _ => decide) h
  have hww : ∀ j, gn (srchOf 3 exE exO).W j = gn [2, 3, 9] j := fun j => by show gn (wtF ((3 : Nat) : Int) exE exO.W) j = _; rw [hw]
  have w1 : Way (srchOf 3 exE exO) 0 1 2 := by
    have := Way.step (x := srchOf 3 exE exO) (s := 0) (f := 0) (i := 0) (by exact Way.here) (by decide) (by decide)
    rw [hww] at this
    exact this
  have w2 : Way (srchOf 3 exE exO) 0 2 5 := by
    have := Way.step (x := srchOf 3 exE exO) (s := 0) (f := 2) (i := 1) (by exact w1) (by decide) (by decide)
    rw [hww] at this
    exact this
  have g0 := h2.is (v := 0) rfl (by show 0 < 3; omega) .here e0
  have g1 := h2.is (v := 1) rfl (by show 1 < 3; omega) w1 (fun g hg => ge hg)
  have g2 := h2.is (v := 2) rfl (by show 2 < 3; omega) w2 (fun g hg => ge hg)
  have hl := outL_len 3 xs
  change gn (outL 3 xs) 0 = 0 at g0
  change gn (outL 3 xs) 1 = 2 at g1
  change gn (outL 3 xs) 2 = 5 at g2
  generalize outL 3 xs = L at *
  match L, hl with
  | [a, b, c], _ =>
    simp [gn] at g0 g1 g2
    rw [g0, g1, g2]
set_option maxRecDepth 20000 in
set_option maxHeartbeats 2000000 in
theorem alive14 (w : World) : Calls Try.prog 25 #[] w fun e w' => e = .returned (.bool true) ∧ Grows w w' := by
  obtain ⟨xs, hx1, hx2, hx3⟩ := exIs
  have C := hide (fun (W : World) (A : Option Addr) (h : Rd W A 3 3 (esCells exE)) => show Calls Try.prog 26 #[.agg #[.int .i64 3, .slice A 3 3], .int .i64 0, .agg #[.bool false, .slice none 0 0, .slice none 0 0, .slice none 0 0, .int .u64 0]] W fun e w' =>
      ∃ go, e = .returned (.tuple #[.slice (some ⟨go, 0, none⟩) 3 3, .int .i64 0]) ∧ Row1 w' go 37 1 3 3 (wv [0, 2, 5]) ∧ W.heap.size ≤ go ∧ Grows W w' from by
    have := djAll 3 0 A 3 exE exO none none none 0 0 0 xs W h ⟨rfl, fun h => absurd h (by simp [exO])⟩ ⟨rfl, fun h => absurd h (by simp [exO])⟩ ⟨rfl, fun h => absurd h (by simp [exO])⟩ exOk (by decide +kernel) hx1 hx2
    rw [hx3] at this
    exact this)
  clear hx1 hx2 hx3
  go_enter Try.func25, Try.ntmps25
  go_wp2_with fail
  refine (C.out _ _ ((Rd.made (w := w) (t := 49) (size := 3) (n := 3) (esCells exE) rfl).new _)).mono ?_
  rintro e w1 ⟨go, rfl, hr, _, hg⟩
  obtain ⟨x, rfl⟩ := hg.later
  have HR := hide (fun (W : World) (hg : Grows x.now W) (A : Option Addr) (h : Rd W A 1 3 (wv [0, 2, 5])) => r1Wide (some ⟨go, 0, none⟩) 3 3 [0, 2, 5] A 3 3 [0, 2, 5] W (hr.rd.grows hg) h (by omega) (by omega))
  clear hr hg
  go_wp2_with fail
  refine (HR.out _ (by repeat (first | exact Grows.refl _ | refine Grows.now ?_ _ | refine Grows.new ?_ _ | refine Grows.drewN ?_ _ | refine Grows.drew ?_ | assumption | (refine Grows.set ?_ (by first | omega | (simp; done) | (simp; omega)) _))) _ (Rd.made (w := x.now) (t := 37) (size := 1) (n := 3) (wv [0, 2, 5]) rfl)).mono ?_
  rintro e w2 ⟨rfl, hg⟩
  obtain ⟨y, rfl⟩ := Grows.later2 (((Grows.refl x.now).new _).trans hg)
  clear hg
  go_wp2_with fail
  go_ret
  exact ⟨rfl, (by repeat (first | exact Grows.refl _ | refine Grows.now ?_ _ | refine Grows.new ?_ _ | refine Grows.drewN ?_ _ | refine Grows.drew ?_ | assumption | (refine Grows.set ?_ (by first | omega | (simp; done) | (simp; omega)) _)))⟩
/-- May a graph, and what counts, be gone through? -/
def light14 (N : Int) (n : Nat) (a b c : Nat) : Bool := lightG N n && decide (a ≤ 100) && decide (b ≤ 100) && decide (c ≤ 400)
set_option maxHeartbeats 1000000 in
theorem lLight14 (N : Int) (A : Option Addr) (n c : Nat) (back : Bool) (An Ae Aw : Option Addr) (a ca b cb nw cw most : Nat) (w : World) : Calls Try.prog 24 #[.agg #[.int .i64 N, .slice A n c], oVal back (.slice An a ca) (.slice Ae b cb) Aw nw cw most] w fun e w' => e = .returned (.bool (light14 N n a b nw)) ∧ Grows w w' := by
  unfold oVal
  have C := hide (fun (W : World) => lLight N A n c W)
  have HD : Hid (light14 N n a b nw = (lightG N n && decide (a ≤ 100) && decide (b ≤ 100) && decide (nw ≤ 400))) := rfl
  generalize light14 N n a b nw = r at *
  generalize lightG N n = q at *
  go_enter Try.func24, Try.ntmps24
  go_wp2_with (go_at_call 49; refine (C.out _).mono ?_; rintro e w' ⟨rfl, hg⟩; obtain ⟨x1, rfl⟩ := hg.later; clear hg)
  all_goals go_ret
  all_goals exact ⟨ret_bool (by rw [HD.out]; apply bool_ext; simp_all; try omega), (by repeat (first | exact Grows.refl _ | refine Grows.now ?_ _ | refine Grows.new ?_ _ | refine Grows.drewN ?_ _ | refine Grows.drew ?_ | assumption | (refine Grows.set ?_ (by first | omega | (simp; done) | (simp; omega)) _)))⟩
end Go.Proofs.Ytpnncadglhlclaa
