/- Contract: a graph is contracted. -/
import Derived.Test.YteodapefimlakaaQContractBuilds21
import Derived.Test.YteodapefimlakaaQContractBuilds22
import Derived.Test.YteodapefimlakaaQContractBuilds19
/- Contract: a graph is contracted. -/
namespace Go.Proofs.Yteodapefimlakaa
open Go Go.RowKit
attribute [local go_sem] Oper.semAt_some
theorem right_ne {N : Int} {E : List Edg} (h : rightF N E = 0) : ∀ i, i < E.length → fN E i ≠ tN E i := by
  intro i hi e
  obtain ⟨_, _, _, r4, _⟩ := right_in h
  have e1 := (r4.f i hi).2
  have e2 := (r4.t i hi).2
  have hm : ge E i ∈ E := by unfold ge; rw [List.getD_eq_getElem?_getD, List.getElem?_eq_getElem hi]; exact List.getElem_mem hi
  unfold rightF at h
  split at h
  · cases h
  split at h
  · cases h
  split at h
  · cases h
  rename_i h3
  apply h3
  refine List.any_eq_true.2 ⟨_, hm, ?_⟩
  unfold looseB
  rw [e1, e2, e]
  simp
theorem edgC_of {N : Nat} {E : List Edg} (h : rightF N E = 0) : EdgC N E := by
  intro i hi
  obtain ⟨_, _, _, r4, r5⟩ := right_in h
  rw [Int.toNat_natCast] at r4
  have := r5 i hi
  exact ⟨(r4.f i hi).2, (r4.t i hi).2, by omega, (r4.f i hi).1, (r4.t i hi).1, right_ne h i hi, by omega⟩
theorem ctAll_of {N hops settles : Nat} {E : List Edg} (h : rightF N E = 0) (hN : N ≤ 12) (hE : E.length ≤ 40) : CtAll N hops settles (ctrG N E) := by
  intro out hd hv
  have hl : out.length ≤ N := by
    have := hd.length_le_of_subset (l₂ := List.range N) (fun v hx => List.mem_range.2 (hv v hx))
    simpa using this
  refine ⟨goAll_net h (right_ne h) hd hv, ?_⟩
  have hW : ∀ i, i < E.length → (ge E i).w.toNat ≤ 4294967296 := fun i hi => by have := (right_in h).2.2.2.2 i hi; omega
  have hb := goAll_b h (right_ne h) hW (hops := hops) (settles := settles) out.length out rfl hd hv
  have h2 : 2 ^ out.length ≤ 2 ^ 12 := Nat.pow_le_pow_right (by omega) (by omega)
  have h3 : N * N ≤ 12 * 12 := Nat.mul_le_mul hN hN
  have h4 : out.length * (N * N) ≤ 12 * (12 * 12) := Nat.mul_le_mul (by omega) h3
  exact hb.mono (Nat.le_trans (Nat.mul_le_mul h2 (Nat.le_refl _)) (by omega)) (by omega) (by omega) (by omega)
set_option maxHeartbeats 2000000 in
theorem coBuildBad (N : Int) (A : Option Addr) (n c : Nat) (E : List Edg) (hops settles : Int) (B : Option Addr) (m d : Nat) (l : List Int) (w : World) (h : Rd w A 3 n (esCells E)) (hn : n ≤ 1000000) (hl : Rd w B 1 m (l.map (.int .i64))) (hm : m ≤ 1000000) (hbad : rightF N E ≠ 0 ∨ coRB hops settles l = false) :
    Calls Try.prog 25 #[.agg #[.int .i64 N, .slice A n c], .agg #[.int .i64 hops, .int .i64 settles, .slice B m d]] w fun e w' => e = .returned (.tuple #[.agg #[.slice none 0 0, .slice none 0 0], .int .i64 1]) ∧ Grows w w' := by
  have C1 := hide (fun (W : World) (g : Grows w W) => gRight N A n c E W (h.grows g) hn)
  have C2 := hide (fun (W : World) (g : Grows w W) => coRight hops settles B m d l W (hl.grows g) hm)
  clear h hl
  by_cases h0 : rightF N E = 0
  · have hb := hbad.resolve_left (fun e => e h0)
    rw [h0] at C1
    rw [hb] at C2
    clear hbad hb h0
    go_enter Try.func25, Try.ntmps25
    go_upto_region 1 with fail
    obtain ⟨W0, hW0⟩ : ∃ W0, W0 = ((w.alloc (.cells #[.int .i64 N, .slice A n c] 24)).alloc (.cells #[.int .i64 hops, .int .i64 settles, .slice B m d] 54)).alloc (.cells #[.slice none 0 0, .slice none 0 0] 28) := ⟨_, rfl⟩
    have hgw0 : Grows w W0 := by rw [hW0]; exact (((Grows.refl w).new _).new _).new _
    have a2 : Arr W0 w.heap.size 24 [.int .i64 N, .slice A n c] := by rw [hW0]; exact ((Arr.make _ _ _).grow ((Grows.refl _).new _)).grow ((Grows.refl _).new _)
    have a3 : Arr W0 (w.heap.size + 1) 54 [.int .i64 hops, .int .i64 settles, .slice B m d] := by rw [hW0]; have h1 := (Arr.make (w.alloc (.cells #[.int .i64 N, .slice A n c] 24)) [.int .i64 hops, .int .i64 settles, .slice B m d] 54).grow ((Grows.refl _).new (.cells #[.slice none 0 0, .slice none 0 0] 28)); simpa using h1
    have a4 : Arr W0 (w.heap.size + 1 + 1) 28 [.slice none 0 0, .slice none 0 0] := by rw [hW0]; have h1 := Arr.make ((w.alloc (.cells #[.int .i64 N, .slice A n c] 24)).alloc (.cells #[.int .i64 hops, .int .i64 settles, .slice B m d] 54)) [.slice none 0 0, .slice none 0 0] 28; simpa using h1
    have hb4 : w.heap.size ≤ w.heap.size + 1 + 1 := by omega
    have hb42 : w.heap.size + 1 + 1 < W0.heap.size := a4.lt
    rw [← hW0]
    clear hW0
    generalize w.heap.size + 1 + 1 = b4 at *
    generalize w.heap.size + 1 = b3 at *
    generalize hb2 : w.heap.size = b2 at *
    have HB2 := hide hb2
    clear hb2
    go_wp2_with (first
      | (go_at_call 56; refine (C1.out _ GG).mono ?_; rintro e w' ⟨rfl, hg⟩; obtain ⟨x1, rfl⟩ := hg.later; clear hg)
      | (go_at_call 33; refine (C2.out _ GG).mono ?_; rintro e w' ⟨rfl, hg⟩; obtain ⟨x2, rfl⟩ := hg.later; clear hg))
    have hgy : Grows w x2.now := GG
    have a4z := (a4.grow x1.grows).grow x2.grows
    have e4 : Arr ((x2.now.setCell ⟨b4, 0, none⟩ (.slice none 0 0)).setCell ⟨b4, 1, none⟩ (.slice none 0 0)) b4 28 [.slice none 0 0, .slice none 0 0] := (a4z.set 0 _).set 1 _
    have m40 := e4.mine 0 rfl
    have m41 := e4.mine 1 rfl
    have hgz : Grows w ((x2.now.setCell ⟨b4, 0, none⟩ (.slice none 0 0)).setCell ⟨b4, 1, none⟩ (.slice none 0 0)) := (hgy.set (p := ⟨b4, 0, none⟩) (by rw [HB2.out]; exact hb4) _).set (p := ⟨b4, 1, none⟩) (by rw [HB2.out]; exact hb4) _
    generalize (x2.now.setCell ⟨b4, 0, none⟩ (.slice none 0 0)).setCell ⟨b4, 1, none⟩ (.slice none 0 0) = W9 at *
    refine bodyPost_ret (v := .tuple #[.agg #[.slice none 0 0, .slice none 0 0], .int .i64 1]) (by simp (maxDischargeDepth := 6) [results, Try.results25, go_sem, *]) rfl ⟨rfl, hgz⟩
  · have hb : (rightF N E != 0) = true := by simpa using h0
    clear hbad h0
    generalize rightF N E = r at *
    go_enter Try.func25, Try.ntmps25
    go_upto_region 1 with fail
    obtain ⟨W0, hW0⟩ : ∃ W0, W0 = ((w.alloc (.cells #[.int .i64 N, .slice A n c] 24)).alloc (.cells #[.int .i64 hops, .int .i64 settles, .slice B m d] 54)).alloc (.cells #[.slice none 0 0, .slice none 0 0] 28) := ⟨_, rfl⟩
    have hgw0 : Grows w W0 := by rw [hW0]; exact (((Grows.refl w).new _).new _).new _
    have a2 : Arr W0 w.heap.size 24 [.int .i64 N, .slice A n c] := by rw [hW0]; exact ((Arr.make _ _ _).grow ((Grows.refl _).new _)).grow ((Grows.refl _).new _)
    have a3 : Arr W0 (w.heap.size + 1) 54 [.int .i64 hops, .int .i64 settles, .slice B m d] := by rw [hW0]; have h1 := (Arr.make (w.alloc (.cells #[.int .i64 N, .slice A n c] 24)) [.int .i64 hops, .int .i64 settles, .slice B m d] 54).grow ((Grows.refl _).new (.cells #[.slice none 0 0, .slice none 0 0] 28)); simpa using h1
    have a4 : Arr W0 (w.heap.size + 1 + 1) 28 [.slice none 0 0, .slice none 0 0] := by rw [hW0]; have h1 := Arr.make ((w.alloc (.cells #[.int .i64 N, .slice A n c] 24)).alloc (.cells #[.int .i64 hops, .int .i64 settles, .slice B m d] 54)) [.slice none 0 0, .slice none 0 0] 28; simpa using h1
    have hb4 : w.heap.size ≤ w.heap.size + 1 + 1 := by omega
    have hb42 : w.heap.size + 1 + 1 < W0.heap.size := a4.lt
    rw [← hW0]
    clear hW0
    generalize w.heap.size + 1 + 1 = b4 at *
    generalize w.heap.size + 1 = b3 at *
    generalize hb2 : w.heap.size = b2 at *
    have HB2 := hide hb2
    clear hb2
    go_wp2_with (first
      | (go_at_call 56; refine (C1.out _ GG).mono ?_; rintro e w' ⟨rfl, hg⟩; obtain ⟨x1, rfl⟩ := hg.later; clear hg))
    have hgy : Grows w x1.now := GG
    have a4z := a4.grow x1.grows
    have e4 : Arr ((x1.now.setCell ⟨b4, 0, none⟩ (.slice none 0 0)).setCell ⟨b4, 1, none⟩ (.slice none 0 0)) b4 28 [.slice none 0 0, .slice none 0 0] := (a4z.set 0 _).set 1 _
    have m40 := e4.mine 0 rfl
    have m41 := e4.mine 1 rfl
    have hgz : Grows w ((x1.now.setCell ⟨b4, 0, none⟩ (.slice none 0 0)).setCell ⟨b4, 1, none⟩ (.slice none 0 0)) := (hgy.set (p := ⟨b4, 0, none⟩) (by rw [HB2.out]; exact hb4) _).set (p := ⟨b4, 1, none⟩) (by rw [HB2.out]; exact hb4) _
    generalize (x1.now.setCell ⟨b4, 0, none⟩ (.slice none 0 0)).setCell ⟨b4, 1, none⟩ (.slice none 0 0) = W9 at *
    refine bodyPost_ret (v := .tuple #[.agg #[.slice none 0 0, .slice none 0 0], .int .i64 1]) (by simp (maxDischargeDepth := 6) [results, Try.results25, go_sem, *]) rfl ⟨rfl, hgz⟩
set_option maxHeartbeats 2000000 in
theorem coBuildRange (N : Int) (A : Option Addr) (n c : Nat) (E : List Edg) (hops settles : Int) (B : Option Addr) (m d : Nat) (l : List Int) (w : World) (h : Rd w A 3 n (esCells E)) (hn : n ≤ 1000000) (hl : Rd w B 1 m (l.map (.int .i64))) (hm : m ≤ 1000000) (hok : rightF N E = 0) (hor : coRB hops settles l = true) (hm0 : 0 < m) (hmN : (m : Int) ≠ N) :
    Calls Try.prog 25 #[.agg #[.int .i64 N, .slice A n c], .agg #[.int .i64 hops, .int .i64 settles, .slice B m d]] w fun e w' => e = .returned (.tuple #[.agg #[.slice none 0 0, .slice none 0 0], .int .i64 2]) ∧ Grows w w' := by
  have C1 := hide (fun (W : World) (g : Grows w W) => gRight N A n c E W (h.grows g) hn)
  have C2 := hide (fun (W : World) (g : Grows w W) => coRight hops settles B m d l W (hl.grows g) hm)
  have hb : ((m : Int) != N) = true := by simpa using hmN
  rw [hok] at C1
  rw [hor] at C2
  clear h hl hmN
  go_enter Try.func25, Try.ntmps25
  go_upto_region 1 with fail
  obtain ⟨W0, hW0⟩ : ∃ W0, W0 = ((w.alloc (.cells #[.int .i64 N, .slice A n c] 24)).alloc (.cells #[.int .i64 hops, .int .i64 settles, .slice B m d] 54)).alloc (.cells #[.slice none 0 0, .slice none 0 0] 28) := ⟨_, rfl⟩
  have hgw0 : Grows w W0 := by rw [hW0]; exact (((Grows.refl w).new _).new _).new _
  have a2 : Arr W0 w.heap.size 24 [.int .i64 N, .slice A n c] := by rw [hW0]; exact ((Arr.make _ _ _).grow ((Grows.refl _).new _)).grow ((Grows.refl _).new _)
  have a3 : Arr W0 (w.heap.size + 1) 54 [.int .i64 hops, .int .i64 settles, .slice B m d] := by rw [hW0]; have h1 := (Arr.make (w.alloc (.cells #[.int .i64 N, .slice A n c] 24)) [.int .i64 hops, .int .i64 settles, .slice B m d] 54).grow ((Grows.refl _).new (.cells #[.slice none 0 0, .slice none 0 0] 28)); simpa using h1
  have a4 : Arr W0 (w.heap.size + 1 + 1) 28 [.slice none 0 0, .slice none 0 0] := by rw [hW0]; have h1 := Arr.make ((w.alloc (.cells #[.int .i64 N, .slice A n c] 24)).alloc (.cells #[.int .i64 hops, .int .i64 settles, .slice B m d] 54)) [.slice none 0 0, .slice none 0 0] 28; simpa using h1
  have hb4 : w.heap.size ≤ w.heap.size + 1 + 1 := by omega
  have hb42 : w.heap.size + 1 + 1 < W0.heap.size := a4.lt
  rw [← hW0]
  clear hW0
  generalize w.heap.size + 1 + 1 = b4 at *
  generalize w.heap.size + 1 = b3 at *
  generalize hb2 : w.heap.size = b2 at *
  have HB2 := hide hb2
  clear hb2
  go_wp2_with (first
    | (go_at_call 56; refine (C1.out _ GG).mono ?_; rintro e w' ⟨rfl, hg⟩; obtain ⟨x1, rfl⟩ := hg.later; clear hg)
    | (go_at_call 33; refine (C2.out _ GG).mono ?_; rintro e w' ⟨rfl, hg⟩; obtain ⟨x2, rfl⟩ := hg.later; clear hg))
  have hgy : Grows w x2.now := GG
  have a4z := (a4.grow x1.grows).grow x2.grows
  have e4 : Arr ((x2.now.setCell ⟨b4, 0, none⟩ (.slice none 0 0)).setCell ⟨b4, 1, none⟩ (.slice none 0 0)) b4 28 [.slice none 0 0, .slice none 0 0] := (a4z.set 0 _).set 1 _
  have m40 := e4.mine 0 rfl
  have m41 := e4.mine 1 rfl
  have hgz : Grows w ((x2.now.setCell ⟨b4, 0, none⟩ (.slice none 0 0)).setCell ⟨b4, 1, none⟩ (.slice none 0 0)) := (hgy.set (p := ⟨b4, 0, none⟩) (by rw [HB2.out]; exact hb4) _).set (p := ⟨b4, 1, none⟩) (by rw [HB2.out]; exact hb4) _
  generalize (x2.now.setCell ⟨b4, 0, none⟩ (.slice none 0 0)).setCell ⟨b4, 1, none⟩ (.slice none 0 0) = W9 at *
  refine bodyPost_ret (v := .tuple #[.agg #[.slice none 0 0, .slice none 0 0], .int .i64 2]) (by simp (maxDischargeDepth := 6) [results, Try.results25, go_sem, *]) rfl ⟨rfl, hgz⟩
theorem Own.capB {w : World} {B n c size : Nat} {e : TypeId} {A : Option Addr} {xs : List Value} (h : Own w B e size A n c xs) : n ≤ c := by
  rcases h.2 with ⟨h1, h2⟩ | ⟨g', cap, cur, h1, _, _, h4, _⟩
  · omega
  · injection h1 with h1 _ h5
    omega
def GiveH (w : World) (N hops settles : Nat) (E : List Edg) (rk : List Nat → Prop) (e : Ending) (w' : World) : Prop :=
  ∃ gr cr As cs r vs, e = .returned (.tuple #[.agg #[.slice (some ⟨gr, 0, none⟩) N cr, .slice As (Ctr.goAll hops settles vs (ctrG N E)).S.length cs], .int .i64 0]) ∧ InvR N r vs ∧ rk r ∧ Row1 w' gr 3 1 N cr (nv r) ∧ Rd w' As 6 (Ctr.goAll hops settles vs (ctrG N E)).S.length (hss (Ctr.goAll hops settles vs (ctrG N E)).S) ∧ (Ctr.goAll hops settles vs (ctrG N E)).S.length ≤ cs ∧ Grows w w'
theorem CoreAt.parts {w : World} {S : Nat → Prop} {P : CorePl} {c : Ctr} (h : CoreAt w S P c) : ∃ R : CoreRw, Arr w P.b 110 (P.cells R c.S.length) ∧ S P.b ∧ Rd w R.As 6 c.S.length (hss c.S) ∧ (∀ p, R.As = some p → S p.block) ∧ c.S.length ≤ R.cs := by
  obtain ⟨R, hX, hS⟩ := h
  exact ⟨R, hX.core, hS _ (.inl rfl), hX.list.rd, fun p hp => hS _ (.inr (.inr (.inr (.inr (.inr (.inl ⟨p, hp, rfl⟩)))))), hX.list.capB⟩
set_option maxRecDepth 20000 in
set_option maxHeartbeats 4000000 in
theorem coBuildOrd (N : Nat) (A : Option Addr) (n c : Nat) (E : List Edg) (hops settles : Nat) (B : Option Addr) (d : Nat) (w : World) (h : Rd w A 3 n (esCells E)) (hok : rightF N E = 0) (hor : coRB hops settles [] = true) (hN : N ≤ 12) (hE : E.length ≤ 40) :
    Calls Try.prog 25 #[.agg #[.int .i64 (N : Int), .slice A n c], .agg #[.int .i64 (hops : Int), .int .i64 (settles : Int), .slice B 0 d]] w (GiveH w N hops settles E (fun _ => True)) := by
  have hel := h.elen
  have C1 := hide (fun (W : World) (g : Grows w W) => gRight N A n c E W (h.grows g) (by omega))
  have C2 := hide (fun (W : World) (g : Grows w W) => coRight hops settles B 0 d [] W ⟨by simp, fun e => absurd e (by omega)⟩ (by omega))
  have C3 := hide (fun (W : World) (g : Grows w W) => coBegun N A c E hops settles (.slice B 0 d) W (by rw [hel]; exact h.grows g) (edgC_of hok) (by omega) (by omega))
  have HALL := hide (ctAll_of (hops := hops) (settles := settles) hok hN hE)
  rw [hok] at C1
  rw [hor] at C2
  rw [hel] at C3
  have hlim : hops ≤ 1000 ∧ settles ≤ 1000 := by
    unfold coRB at hor
    simp at hor
    omega
  obtain ⟨hl1, hl2⟩ := hlim
  unfold GiveBg at C3
  clear h hel hE hok hor
  go_enter Try.func25, Try.ntmps25
  go_upto_region 1 with fail
  obtain ⟨W0, hW0⟩ : ∃ W0, W0 = ((w.alloc (.cells #[.int .i64 (N : Int), .slice A n c] 24)).alloc (.cells #[.int .i64 (hops : Int), .int .i64 (settles : Int), .slice B 0 d] 54)).alloc (.cells #[.slice none 0 0, .slice none 0 0] 28) := ⟨_, rfl⟩
  have hgw0 : Grows w W0 := by rw [hW0]; exact (((Grows.refl w).new _).new _).new _
  have a2 : Arr W0 w.heap.size 24 [.int .i64 (N : Int), .slice A n c] := by rw [hW0]; exact ((Arr.make _ _ _).grow ((Grows.refl _).new _)).grow ((Grows.refl _).new _)
  have a3 : Arr W0 (w.heap.size + 1) 54 [.int .i64 (hops : Int), .int .i64 (settles : Int), .slice B 0 d] := by rw [hW0]; have h1 := (Arr.make (w.alloc (.cells #[.int .i64 (N : Int), .slice A n c] 24)) [.int .i64 (hops : Int), .int .i64 (settles : Int), .slice B 0 d] 54).grow ((Grows.refl _).new (.cells #[.slice none 0 0, .slice none 0 0] 28)); simpa using h1
  have a4 : Arr W0 (w.heap.size + 1 + 1) 28 [.slice none 0 0, .slice none 0 0] := by rw [hW0]; have h1 := Arr.make ((w.alloc (.cells #[.int .i64 (N : Int), .slice A n c] 24)).alloc (.cells #[.int .i64 (hops : Int), .int .i64 (settles : Int), .slice B 0 d] 54)) [.slice none 0 0, .slice none 0 0] 28; simpa using h1
  have hb4 : w.heap.size ≤ w.heap.size + 1 + 1 := by omega
  have hb42 : w.heap.size + 1 + 1 < W0.heap.size := a4.lt
  rw [← hW0]
  clear hW0
  generalize w.heap.size + 1 + 1 = b4 at *
  generalize w.heap.size + 1 = b3 at *
  generalize hb2 : w.heap.size = b2 at *
  have HB2 := hide hb2
  clear hb2
  go_upto_region 6 with (first
    | (go_at_call 56; refine (C1.out _ GG).mono ?_; rintro e w' ⟨rfl, hg⟩; obtain ⟨x1, rfl⟩ := hg.later; clear hg)
    | (go_at_call 33; refine (C2.out _ GG).mono ?_; rintro e w' ⟨rfl, hg⟩; obtain ⟨x2, rfl⟩ := hg.later; clear hg)
    | (go_at_call 57; refine (C3.out _ GG).mono ?_; rintro e w' ⟨P, rfl, hPN, hPh, hPs, hPr, hc, hg⟩; obtain ⟨x3, rfl⟩ := hg.later; have HP := hide (And.intro hPN (And.intro hPh (And.intro hPs hPr))); have HC := hide hc; clear hg hPN hPh hPs hPr hc))
  obtain ⟨rfl, rfl, rfl, hrk⟩ := HP.out
  have CO := hide (coOrder P (ctrG P.N E) (New x2.now x3.now) x3.now HC.out (fun k hk => hk.2) HALL.out (by omega) hl1 hl2)
  have CI := hide (fun (A1 : Option Addr) (c1 : Nat) (out : List Nat) (W : World) (h1 : Rd W A1 1 P.N (nv out)) (h2 : out.Nodup) (h3 : out.length = P.N) (h4 : ∀ v ∈ out, v < P.N) => rkInverse A1 P.N c1 out W h1 (by omega) h2 (fun v hv => by rw [h3]; exact h4 v hv))
  have hPb : x2.now.heap.size ≤ P.b := by
    obtain ⟨_, _, hS, _⟩ := HC.out.parts
    exact hS.1
  have hx1 := x1.size
  have hx2 := x2.size
  have a3z := ((a3.grow x1.grows).grow x2.grows)
  have a4z := ((a4.grow x1.grows).grow x2.grows)
  have hgy2 : Grows w x2.now := GG
  unfold GiveOrd at CO
  clear hrk HP C1 C2 C3 a2 a3 a4 HC
  go_upto_region 14 with (first
    | (go_at_call 59; refine (CO.out).mono ?_; rintro e w4 ⟨Ao, co, out, rfl, ho1, ho2, ho3, ho4, ho5, ho6⟩; have HG4 := hide (ho6.later x3.grows (fun k hk => hk.1)); obtain ⟨y4, rfl⟩ := HG4.out.later; have HO4 := hide (And.intro ho1 (And.intro ho2 ho3)); have HOW := hide ho4; have HCO := hide ho5; clear ho1 ho2 ho3 ho4 ho5 ho6 HG4)
    | (go_at_call 58; refine (CI.out _ _ _ _ HOW.out.rd HO4.out.1 HO4.out.2.1 HO4.out.2.2).mono ?_; rintro e w5 ⟨gr, V, rfl, hI, hV, hgl, hg⟩; obtain ⟨y5, rfl⟩ := hg.later; have HI := hide hI; have HV := hide hV; have HGL := hide hgl; clear hI hV hgl hg))
  have hx3 := x3.size
  have hy4 := y4.size
  obtain ⟨R, q1, q2, q3, q4, q5⟩ := HCO.out.parts
  have HCAP := hide q5
  have qb : ∀ k, (New x2.now x3.now k ∨ New x3.now y4.now k) → k ≠ b4 := fun k hk => by rcases hk with hk | hk <;> have := hk.1 <;> omega
  have ag : gr ≠ b4 := by have := HGL.out; omega
  have aw4 : Arr (y5.now.setCell ⟨b4, 0, none⟩ (.slice (some ⟨gr, 0, none⟩) P.N P.N)) b4 28 [.slice (some ⟨gr, 0, none⟩) P.N P.N, .slice none 0 0] := ((a4z.grow y4.grows).grow y5.grows).set 0 _
  have awc := (q1.grow y5.grows).other (p := ⟨b4, 0, none⟩) (fun e => qb _ q2 e.symm) (.slice (some ⟨gr, 0, none⟩) P.N P.N)
  have HRW := hide ((HV.out.row (n := P.N) (size := 1) (by have := HI.out.vl; simp [nv, this]) (by omega)).other (p := ⟨b4, 0, none⟩) (Ne.symm ag) (.slice (some ⟨gr, 0, none⟩) P.N P.N))
  have HLS := hide ((q3.grows y5.grows).touch ((Touch.refl (fun k => k = b4) y5.now).set (p := ⟨b4, 0, none⟩) (.inl rfl) (.slice (some ⟨gr, 0, none⟩) P.N P.N)) (fun p hp e => qb _ (q4 p hp) e))
  have HQ4 := hide (fun p hp e => qb _ (q4 p hp) e)
  have HGW := hide (((hgy2.trans y4.grows).trans y5.grows).set (p := ⟨b4, 0, none⟩) (by show w.heap.size ≤ b4; have := hgw0.size; rw [HB2.out]; exact hb4) (.slice (some ⟨gr, 0, none⟩) P.N P.N))
  have HAG := hide ag
  unfold CorePl.cells at awc
  clear q1 q2 q3 q4 q5 qb ag hx3 hy4 a3z a4z hgy2 hgw0 hb42 hx1 hx2 hPb HOW HCO HV CO CI HALL
  generalize y5.now.setCell ⟨b4, 0, none⟩ (.slice (some ⟨gr, 0, none⟩) P.N P.N) = W7 at *
  obtain ⟨S, hS⟩ : ∃ S, S = (Ctr.goAll P.hops P.settles out (ctrG P.N E)).S := ⟨_, rfl⟩
  rw [← hS] at HLS awc HCAP
  have HSS := hide hS
  clear hS
  go_wp2_with fail
  have ht : Touch (fun k => k = b4) W7 (((W7.setCell ⟨b4, 1, none⟩ (.slice R.As S.length R.cs)).setCell ⟨b4, 0, none⟩ (.slice (some ⟨gr, 0, none⟩) P.N P.N)).setCell ⟨b4, 1, none⟩ (.slice R.As S.length R.cs)) := (((Touch.refl (fun k => k = b4) W7).set (p := ⟨b4, 1, none⟩) (.inl rfl) _).set (p := ⟨b4, 0, none⟩) (.inl rfl) _).set (p := ⟨b4, 1, none⟩) (.inl rfl) _
  have ae : Arr (((W7.setCell ⟨b4, 1, none⟩ (.slice R.As S.length R.cs)).setCell ⟨b4, 0, none⟩ (.slice (some ⟨gr, 0, none⟩) P.N P.N)).setCell ⟨b4, 1, none⟩ (.slice R.As S.length R.cs)) b4 28 [.slice (some ⟨gr, 0, none⟩) P.N P.N, .slice R.As S.length R.cs] := ((aw4.set 1 _).set 0 _).set 1 _
  generalize ((W7.setCell ⟨b4, 1, none⟩ (.slice R.As S.length R.cs)).setCell ⟨b4, 0, none⟩ (.slice (some ⟨gr, 0, none⟩) P.N P.N)).setCell ⟨b4, 1, none⟩ (.slice R.As S.length R.cs) = W9 at *
  have m0 := ae.mine 0 rfl
  have m1 := ae.mine 1 rfl
  have HT := hide ht
  clear ht
  refine bodyPost_ret (v := .tuple #[.agg #[.slice (some ⟨gr, 0, none⟩) P.N P.N, .slice R.As S.length R.cs], .int .i64 0]) (by simp (maxDischargeDepth := 6) [results, Try.results25, go_sem, *]) rfl ?_
  refine ⟨gr, P.N, R.As, R.cs, V, out, by rw [← HSS.out], HI.out.symm, trivial, HRW.out.touch HT.out (fun e => HAG.out e), ?_, by rw [← HSS.out]; exact HCAP.out, HT.out.later HGW.out (fun k hk => by rw [hk, HB2.out]; exact hb4)⟩
  rw [← HSS.out]
  exact HLS.out.touch HT.out (fun p hp e => HQ4.out p hp e)
theorem take_gn {V : List Nat} {k : Nat} (h : k < V.length) : V.take (k + 1) = V.take k ++ [gn V k] := by
  rw [List.take_add_one, List.getElem?_eq_getElem h]
  simp [gn, List.getD_eq_getElem?_getD, List.getElem?_eq_getElem h]
set_option maxRecDepth 20000 in
set_option maxHeartbeats 4000000 in
theorem coBuildRank (N : Nat) (A : Option Addr) (n c : Nat) (E : List Edg) (hops settles : Nat) (B : Option Addr) (d : Nat) (r : List Nat) (w : World) (h : Rd w A 3 n (esCells E)) (hok : rightF N E = 0) (hr : Rd w B 1 N (nv r)) (hor : coRB hops settles (nvI r) = true) (hN : N ≤ 12) (hE : E.length ≤ 40) :
    Calls Try.prog 25 #[.agg #[.int .i64 (N : Int), .slice A n c], .agg #[.int .i64 (hops : Int), .int .i64 (settles : Int), .slice B N d]] w (GiveH w N hops settles E (fun r' => r' = r)) := by
  have hel := h.elen
  have hN0 : 0 < N := by have := (right_in hok).1; omega
  have hrl : r.length = N := by have := hr.len; simpa [nv] using this
  have C1 := hide (fun (W : World) (g : Grows w W) => gRight N A n c E W (h.grows g) (by omega))
  have C2 := hide (fun (W : World) (g : Grows w W) => coRight hops settles B N d (nvI r) W (by rw [← nvI_vals]; exact hr.grows g) (by omega))
  have C3 := hide (fun (W : World) (g : Grows w W) => coBegun N A c E hops settles (.slice B N d) W (by rw [hel]; exact h.grows g) (edgC_of hok) (by omega) (by omega))
  have C4 := hide (fun (W : World) (g : Grows w W) => cloneN B N d r W (hr.grows g) hN0 (by omega))
  have HALL := hide (ctAll_of (hops := hops) (settles := settles) hok hN hE)
  rw [hok] at C1
  rw [hor] at C2
  rw [hel] at C3
  have hlim : (hops ≤ 1000 ∧ settles ≤ 1000) ∧ rkB (nvI r) = true := by
    unfold coRB at hor
    simp at hor
    exact ⟨by omega, hor.2⟩
  obtain ⟨⟨hl1, hl2⟩, hrk⟩ := hlim
  have hrn : r.Nodup := nvI_nodup (rkB_of hrk).1
  have hrt : ∀ v ∈ r, v < r.length := fun v hv => by
    have := (rkB_of hrk).2 (v : Int) (by unfold nvI; exact List.mem_map.2 ⟨v, hv, rfl⟩)
    unfold nvI at this
    rw [List.length_map] at this
    omega
  have C5 := hide (fun (W : World) (g : Grows w W) => rkInverse B N d r W (hr.grows g) (by omega) hrn hrt)
  unfold GiveBg at C3
  clear h hel hE hok hor hr hrl hrk hrn hrt
  go_enter Try.func25, Try.ntmps25
  go_upto_region 1 with fail
  obtain ⟨W0, hW0⟩ : ∃ W0, W0 = ((w.alloc (.cells #[.int .i64 (N : Int), .slice A n c] 24)).alloc (.cells #[.int .i64 (hops : Int), .int .i64 (settles : Int), .slice B N d] 54)).alloc (.cells #[.slice none 0 0, .slice none 0 0] 28) := ⟨_, rfl⟩
  have hgw0 : Grows w W0 := by rw [hW0]; exact (((Grows.refl w).new _).new _).new _
  have a2 : Arr W0 w.heap.size 24 [.int .i64 (N : Int), .slice A n c] := by rw [hW0]; exact ((Arr.make _ _ _).grow ((Grows.refl _).new _)).grow ((Grows.refl _).new _)
  have a3 : Arr W0 (w.heap.size + 1) 54 [.int .i64 (hops : Int), .int .i64 (settles : Int), .slice B N d] := by rw [hW0]; have h1 := (Arr.make (w.alloc (.cells #[.int .i64 (N : Int), .slice A n c] 24)) [.int .i64 (hops : Int), .int .i64 (settles : Int), .slice B N d] 54).grow ((Grows.refl _).new (.cells #[.slice none 0 0, .slice none 0 0] 28)); simpa using h1
  have a4 : Arr W0 (w.heap.size + 1 + 1) 28 [.slice none 0 0, .slice none 0 0] := by rw [hW0]; have h1 := Arr.make ((w.alloc (.cells #[.int .i64 (N : Int), .slice A n c] 24)).alloc (.cells #[.int .i64 (hops : Int), .int .i64 (settles : Int), .slice B N d] 54)) [.slice none 0 0, .slice none 0 0] 28; simpa using h1
  have hb4 : w.heap.size ≤ w.heap.size + 1 + 1 := by omega
  have hb42 : w.heap.size + 1 + 1 < W0.heap.size := a4.lt
  have hb34 : ¬ w.heap.size + 1 + 1 = w.heap.size + 1 := by omega
  rw [← hW0]
  clear hW0
  generalize w.heap.size + 1 + 1 = b4 at *
  generalize w.heap.size + 1 = b3 at *
  generalize hb2 : w.heap.size = b2 at *
  have HB2 := hide hb2
  clear hb2
  go_upto_region 6 with (first
    | (go_at_call 56; refine (C1.out _ GG).mono ?_; rintro e w' ⟨rfl, hg⟩; obtain ⟨x1, rfl⟩ := hg.later; clear hg)
    | (go_at_call 33; refine (C2.out _ GG).mono ?_; rintro e w' ⟨rfl, hg⟩; obtain ⟨x2, rfl⟩ := hg.later; clear hg)
    | (go_at_call 57; refine (C3.out _ GG).mono ?_; rintro e w' ⟨P, rfl, hPN, hPh, hPs, hPr, hc, hg⟩; obtain ⟨x3, rfl⟩ := hg.later; have HP := hide (And.intro hPN (And.intro hPh (And.intro hPs hPr))); have HC := hide hc; clear hg hPN hPh hPs hPr hc))
  obtain ⟨rfl, rfl, rfl, hrk⟩ := HP.out
  have hPb : x2.now.heap.size ≤ P.b := by
    obtain ⟨_, _, hS, _⟩ := HC.out.parts
    exact hS.1
  have hx1 := x1.size
  have hx2 := x2.size
  have hx3 := x3.size
  have a3z := ((a3.grow x1.grows).grow x2.grows).grow x3.grows
  have a4z := ((a4.grow x1.grows).grow x2.grows).grow x3.grows
  have hgy3 : Grows w x3.now := GG
  clear hrk HP C1 C2 C3 a2 a3 a4
  go_upto_region 9 with (go_at_call 55; refine (C4.out _ GG).mono ?_; rintro e w4 ⟨gr, cr, rfl, hr1, hgl, hg⟩; obtain ⟨y4, rfl⟩ := hg.later; have HR1 := hide hr1; have HGL := hide hgl; clear hr1 hgl hg)
  have hy4 := y4.size
  have ag : gr ≠ b4 := by have := HGL.out; omega
  have a35 : Arr (y4.now.setCell ⟨b4, 0, none⟩ (.slice (some ⟨gr, 0, none⟩) P.N cr)) b3 54 [.int .i64 (P.hops : Int), .int .i64 (P.settles : Int), .slice B P.N d] := (a3z.grow y4.grows).other (p := ⟨b4, 0, none⟩) hb34 _
  have a45 : Arr (y4.now.setCell ⟨b4, 0, none⟩ (.slice (some ⟨gr, 0, none⟩) P.N cr)) b4 28 [.slice (some ⟨gr, 0, none⟩) P.N cr, .slice none 0 0] := (a4z.grow y4.grows).set 0 _
  have HRW := hide (HR1.out.other (p := ⟨b4, 0, none⟩) (Ne.symm ag) (.slice (some ⟨gr, 0, none⟩) P.N cr))
  have HC5 := hide ((HC.out.touch (y4.grows.touch (fun _ => False)) (fun _ _ => id)).touch ((Touch.refl (fun k => k = b4) y4.now).set (p := ⟨b4, 0, none⟩) (.inl rfl) (.slice (some ⟨gr, 0, none⟩) P.N cr)) (fun k hk e => by have := hk.1; omega))
  have hgw5 : Grows w (y4.now.setCell ⟨b4, 0, none⟩ (.slice (some ⟨gr, 0, none⟩) P.N cr)) := (hgy3.trans y4.grows).set (p := ⟨b4, 0, none⟩) (by show w.heap.size ≤ b4; rw [HB2.out]; exact hb4) _
  have hs5 : y4.now.heap.size = (y4.now.setCell ⟨b4, 0, none⟩ (.slice (some ⟨gr, 0, none⟩) P.N cr)).heap.size := (size_setCell _ _ _).symm
  have hgl : x3.now.heap.size ≤ gr ∧ gr < y4.now.heap.size := ⟨HGL.out, HR1.out.lt⟩
  have HAG := hide ag
  clear hb34 ag a3z a4z hgy3 hgw0 HR1 HGL HC C4
  generalize y4.now.setCell ⟨b4, 0, none⟩ (.slice (some ⟨gr, 0, none⟩) P.N cr) = W5 at *
  have HSZ := hide (And.intro hs5 (And.intro hgl (And.intro hb42 (And.intro hx1 (And.intro hx2 (And.intro hx3 (And.intro hPb hy4)))))))
  clear hs5 hgl hb42 hx1 hx2 hx3 hPb hy4
  go_wp2_with (go_at_call 58; refine (C5.out _ GG).mono ?_; rintro e w6 ⟨gv, V, rfl, hI, hV, hgl, hg⟩; obtain ⟨y6, rfl⟩ := hg.later; have HI := hide hI; have HV := hide hV; have HGV := hide hgl; clear hI hV hgl hg)
  have hy6 := y6.size
  obtain ⟨SC0, hSC0⟩ : ∃ SC0, SC0 = New x2.now x3.now := ⟨_, rfl⟩
  have HSC := hide (show ∀ k, SC0 k → w.heap.size ≤ k ∧ k ≠ b4 ∧ k ≠ gr ∧ k < y6.now.heap.size ∧ k ≠ gv from fun k hk => by
    rw [hSC0] at hk
    obtain ⟨h1, ⟨h2, h3⟩, h4, h5, h6, h7, h8, h9⟩ := HSZ.out
    have h10 := HGV.out
    have h11 := HB2.out
    have := hk.1
    have := hk.2
    exact ⟨by omega, by omega, by omega, by omega, by omega⟩)
  rw [← hSC0] at HC5
  have HCY := hide ((HC5.out.touch (y6.grows.touch (fun _ => False)) (fun _ _ => id)).mono (S' := fun j => SC0 j ∨ New y6.now y6.now j) (fun j hj => .inl hj))
  have HG6 := hide (hgw5.trans y6.grows)
  have HA4 := hide (a45.grow y6.grows)
  have HR6 := hide (HRW.out.grow y6.grows)
  have hlt4 : w.heap.size ≤ b4 := by rw [HB2.out]; exact hb4
  have HL4 := hide (And.intro hlt4 (And.intro a45.lt HRW.out.lt))
  obtain ⟨c0, hc0⟩ : ∃ c0, c0 = ctrG P.N E := ⟨_, rfl⟩
  rw [← hc0] at HALL HCY
  have HC0 := hide hc0
  clear hc0 hSC0 HC5 HSZ a35 a45 HRW hgw5 C5 hb4 hlt4
  go_loopw [52] (fun i wr => ∃ k : Nat, k ≤ P.N ∧ i = .int .i64 (k : Int) ∧ Touch SC0 y6.now wr ∧ CoreAt wr (fun j => SC0 j ∨ New y6.now wr j) P (Ctr.goAll P.hops P.settles (V.take k) c0)) (fun i _ => P.N - (Go.RowKit.intOf i).toNat)
  case atStart => exact ⟨0, by omega, by go_num, Touch.refl _ _, HCY.out⟩
  case round =>
    obtain ⟨k, hk, rfl, ht, hc⟩ := hrel
    have HT := hide ht
    have HC := hide hc
    clear ht hc HCY
    by_cases hlt : k < P.N
    · have hvl := HI.out.vl
      have mv := (HV.out.mine k (nv_at (by rw [hvl]; exact hlt))).touch HT.out (fun e => (HSC.out _ e).2.2.2.2 rfl)
      have hnd : (V.take k).Nodup := HI.out.nodup.sublist (List.take_sublist _ _)
      have hvt : ∀ v ∈ V.take k, v < P.N := fun v hv => HI.out.lt v (List.mem_of_mem_take hv)
      obtain ⟨al1, al2⟩ := HALL.out _ hnd hvt
      have hsz := HT.out.size
      have CCON := hide (coContract P (Ctr.goAll P.hops P.settles (V.take k) c0) (gn V k) 80000 _ wr HC.out (fun j hj => by rcases hj with h1 | h1; exact Nat.lt_of_lt_of_le (HSC.out j h1).2.2.2.1 hsz; exact h1.2) al1 (HI.out.at_ k hlt).1 (by omega) al2.w al2.row (by omega) al2.len (al2.deep _) hl1 hl2)
      have HGO := hide (show Ctr.goAll P.hops P.settles (V.take (k + 1)) c0 = Ctr.go P.hops P.settles (Ctr.goAll P.hops P.settles (V.take k) c0) (gn V k) from by rw [take_gn (by rw [hvl]; exact hlt), goAll_snoc])
      unfold GiveCo at CCON
      clear hnd hvt al1 al2 hsz hvl
      generalize gn V k = v at *
      go_wp2_with (go_at_call 60; refine (CCON.out).mono ?_; rintro e w7 ⟨rfl, hc, ht⟩; have HN := hide (add_after HT.out (Grows.refl _) ht hc); clear hc ht)
      go_roundw
      case measure => simp [Go.RowKit.intOf]; omega
      case rel => exact ⟨k + 1, by omega, by go_num, HN.out.1, by rw [HGO.out]; exact HN.out.2⟩
    · obtain rfl : k = P.N := by omega
      have hvl : V.take P.N = V := List.take_of_length_le (by rw [HI.out.vl]; omega)
      rw [hvl] at HC
      rw [HC0.out] at HC
      clear hvl
      have HCQ := hide HC.out.parts
      obtain ⟨R, q1, q2, q3, q4, q5⟩ := HC.out.parts
      have HCAP := hide q5
      have qb : ∀ k, (SC0 k ∨ New y6.now wr k) → k ≠ b4 := fun k hk => by
        rcases hk with hk | hk
        · exact (HSC.out k hk).2.1
        · have := hk.1; have := HL4.out.2.1; have := y6.size; omega
      have aw4 : Arr wr b4 28 [.slice (some ⟨gr, 0, none⟩) P.N cr, .slice none 0 0] := HA4.out.touch HT.out (fun e => (HSC.out _ e).2.1 rfl)
      have awc := q1
      have HRW := hide (HR6.out.touch HT.out (fun e => (HSC.out _ e).2.2.1 rfl))
      have HLS := hide q3
      have HQ4 := hide (fun p hp e => qb _ (q4 p hp) e)
      have HGW := hide (HT.out.later HG6.out (fun k hk => (HSC.out k hk).1))
      have hb4 := HL4.out.1
      unfold CorePl.cells at awc
      clear q1 q2 q3 q4 q5 qb HCQ HALL HC HT HA4 HR6 HG6 HV HSC
      obtain ⟨S, hS⟩ : ∃ S, S = (Ctr.goAll P.hops P.settles V (ctrG P.N E)).S := ⟨_, rfl⟩
      rw [← hS] at HLS awc HCAP
      have HSS := hide hS
      clear hS
      go_wp2_with fail
      have ht : Touch (fun k => k = b4) wr (((wr.setCell ⟨b4, 1, none⟩ (.slice R.As S.length R.cs)).setCell ⟨b4, 0, none⟩ (.slice (some ⟨gr, 0, none⟩) P.N cr)).setCell ⟨b4, 1, none⟩ (.slice R.As S.length R.cs)) := (((Touch.refl (fun k => k = b4) wr).set (p := ⟨b4, 1, none⟩) (.inl rfl) _).set (p := ⟨b4, 0, none⟩) (.inl rfl) _).set (p := ⟨b4, 1, none⟩) (.inl rfl) _
      have ae : Arr (((wr.setCell ⟨b4, 1, none⟩ (.slice R.As S.length R.cs)).setCell ⟨b4, 0, none⟩ (.slice (some ⟨gr, 0, none⟩) P.N cr)).setCell ⟨b4, 1, none⟩ (.slice R.As S.length R.cs)) b4 28 [.slice (some ⟨gr, 0, none⟩) P.N cr, .slice R.As S.length R.cs] := ((aw4.set 1 _).set 0 _).set 1 _
      generalize ((wr.setCell ⟨b4, 1, none⟩ (.slice R.As S.length R.cs)).setCell ⟨b4, 0, none⟩ (.slice (some ⟨gr, 0, none⟩) P.N cr)).setCell ⟨b4, 1, none⟩ (.slice R.As S.length R.cs) = W9 at *
      have m0 := ae.mine 0 rfl
      have m1 := ae.mine 1 rfl
      have HT := hide ht
      clear ht
      refine bodyPost_ret (v := .tuple #[.agg #[.slice (some ⟨gr, 0, none⟩) P.N cr, .slice R.As S.length R.cs], .int .i64 0]) (by simp (maxDischargeDepth := 6) [results, Try.results25, go_sem, *]) rfl ?_
      refine ⟨gr, cr, R.As, R.cs, r, V, by rw [← HSS.out], HI.out, rfl, HRW.out.touch HT.out (fun e => HAG.out e), ?_, by rw [← HSS.out]; exact HCAP.out, HT.out.later HGW.out (fun k hk => by rw [hk]; exact hb4)⟩
      rw [← HSS.out]
      exact HLS.out.touch HT.out (fun p hp e => HQ4.out p hp e)
end Go.Proofs.Yteodapefimlakaa
