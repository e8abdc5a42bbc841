/- Contract: a graph is contracted. -/
import Derived.Test.YtgplpgldhoelcaaQChangeAgain23
import Derived.Test.YtgplpgldhoelcaaQChangeAgain21
import Derived.Test.YtgplpgldhoelcaaQChangeAgain01
import Derived.Test.YtgplpgldhoelcaaQChangeAgain04
import Derived.Test.YtgplpgldhoelcaaQChangeAgain07
import Derived.Test.YtgplpgldhoelcaaQChangeAgain17
import Derived.Test.YtgplpgldhoelcaaQChangeAgain13
import Derived.Test.YtgplpgldhoelcaaQChangeAgain20
import Derived.Test.YtgplpgldhoelcaaQChangeAgain18
namespace Go.Proofs.Ytgplpgldhoelcaa
open Go Go.RowKit
attribute [local go_sem] Oper.semAt_some
theorem right_ne {N : Int} {E : List Edg} (h : rightF N E = 0) : ∀ i, i < E.length → fN E i ≠ tN E i := by
  intro i hi e
  obtain ⟨_, _, _, r4, _⟩ := right_in h
  have e1 := (r4.f i hi).2
  have e2 := (r4.t i hi).2
  have hm : ge E i ∈ E := by unfold ge; rw [List.getD_eq_getElem?_getD, List.getElem?_eq_getElem hi]; exact List.getElem_mem hi
  unfold rightF at h
  split at h
  · cases h
  split at h
  · cases h
  split at h
  · cases h
  rename_i h3
  apply h3
  refine List.any_eq_true.2 ⟨_, hm, ?_⟩
  unfold looseB
  rw [e1, e2, e]
  simp
theorem edgC_of {N : Nat} {E : List Edg} (h : rightF N E = 0) : EdgC N E := by
  intro i hi
  obtain ⟨_, _, _, r4, r5⟩ := right_in h
  rw [Int.toNat_natCast] at r4
  have := r5 i hi
  exact ⟨(r4.f i hi).2, (r4.t i hi).2, by omega, (r4.f i hi).1, (r4.t i hi).1, right_ne h i hi, by omega⟩
theorem ctAll_of {N hops settles : Nat} {E : List Edg} (h : rightF N E = 0) (hN : N ≤ 12) (hE : E.length ≤ 40) : CtAll N hops settles (ctrG N E) := by
  intro out hd hv
  have hl : out.length ≤ N := by
    have := hd.length_le_of_subset (l₂ := List.range N) (fun v hx => List.mem_range.2 (hv v hx))
    simpa using this
  refine ⟨goAll_net h (right_ne h) hd hv, ?_⟩
  have hW : ∀ i, i < E.length → (ge E i).w.toNat ≤ 4294967296 := fun i hi => by have := (right_in h).2.2.2.2 i hi; omega
  have hb := goAll_b h (right_ne h) hW (hops := hops) (settles := settles) out.length out rfl hd hv
  have h2 : 2 ^ out.length ≤ 2 ^ 12 := Nat.pow_le_pow_right (by omega) (by omega)
  have h3 : N * N ≤ 12 * 12 := Nat.mul_le_mul hN hN
  have h4 : out.length * (N * N) ≤ 12 * (12 * 12) := Nat.mul_le_mul (by omega) h3
  exact hb.mono (Nat.le_trans (Nat.mul_le_mul h2 (Nat.le_refl _)) (by omega)) (by omega) (by omega) (by omega)
set_option maxHeartbeats 2000000 in
theorem coBuildBad (N : Int) (A : Option Addr) (n c : Nat) (E : List Edg) (hops settles : Int) (B : Option Addr) (m d : Nat) (l : List Int) (w : World) (h : Rd w A 3 n (esCells E)) (hn : n ≤ 1000000) (hl : Rd w B 1 m (l.map (.int .i64))) (hm : m ≤ 1000000) (hbad : rightF N E ≠ 0 ∨ coRB hops settles l = false) :
    Calls Try.prog 36 #[.agg #[.int .i64 N, .slice A n c], .agg #[.int .i64 hops, .int .i64 settles, .slice B m d]] w fun e w' => e = .returned (.tuple #[.agg #[.slice none 0 0, .slice none 0 0], .int .i64 1]) ∧ Grows w w' := by
  have C1 := hide (fun (W : World) (g : Grows w W) => gRight N A n c E W (h.grows g) hn)
  have C2 := hide (fun (W : World) (g : Grows w W) => coRight hops settles B m d l W (hl.grows g) hm)
  clear h hl
  by_cases h0 : rightF N E = 0
  · have hb := hbad.resolve_left (fun e => e h0)
    rw [h0] at C1
    rw [hb] at C2
    clear hbad hb h0
    go_enter Try.func36, Try.ntmps36
    go_upto_region 1 with fail
    obtain ⟨W0, hW0⟩ : ∃ W0, W0 = ((w.alloc (.cells #[.int .i64 N, .slice A n c] 44)).alloc (.cells #[.int .i64 hops, .int .i64 settles, .slice B m d] 37)).alloc (.cells #[.slice none 0 0, .slice none 0 0] 63) := ⟨_, rfl⟩
    have hgw0 : Grows w W0 := by rw [hW0]; exact (((Grows.refl w).new _).new _).new _
    have a2 : Arr W0 w.heap.size 44 [.int .i64 N, .slice A n c] := by rw [hW0]; exact ((Arr.make _ _ _).grow ((Grows.refl _).new _)).grow ((Grows.refl _).new _)
    have a3 : Arr W0 (w.heap.size + 1) 37 [.int .i64 hops, .int .i64 settles, .slice B m d] := by rw [hW0]; have h1 := (Arr.make (w.alloc (.cells #[.int .i64 N, .slice A n c] 44)) [.int .i64 hops, .int .i64 settles, .slice B m d] 37).grow ((Grows.refl _).new (.cells #[.slice none 0 0, .slice none 0 0] 63)); simpa using h1
    have a4 : Arr W0 (w.heap.size + 1 + 1) 63 [.slice none 0 0, .slice none 0 0] := by rw [hW0]; have h1 := Arr.make ((w.alloc (.cells #[.int .i64 N, .slice A n c] 44)).alloc (.cells #[.int .i64 hops, .int .i64 settles, .slice B m d] 37)) [.slice none 0 0, .slice none 0 0] 63; simpa using h1
    have hb4 : w.heap.size ≤ w.heap.size + 1 + 1 := by omega
    have hb42 : w.heap.size + 1 + 1 < W0.heap.size := a4.lt
    rw [← hW0]
    clear hW0
    generalize w.heap.size + 1 + 1 = b4 at *
    generalize w.heap.size + 1 = b3 at *
    generalize hb2 : w.heap.size = b2 at *
    have HB2 := hide hb2
    clear hb2
    go_wp2_with (first
      | (go_at_call 51; refine (C1.out _ GG).mono ?_; rintro e w' ⟨rfl, hg⟩; obtain ⟨x1, rfl⟩ := hg.later; clear hg)
      | (go_at_call 41; refine (C2.out _ GG).mono ?_; rintro e w' ⟨rfl, hg⟩; obtain ⟨x2, rfl⟩ := hg.later; clear hg))
    have hgy : Grows w x2.now := GG
    have a4z := (a4.grow x1.grows).grow x2.grows
    have e4 : Arr ((x2.now.setCell ⟨b4, 0, none⟩ (.slice none 0 0)).setCell ⟨b4, 1, none⟩ (.slice none 0 0)) b4 63 [.slice none 0 0, .slice none 0 0] := (a4z.set 0 _).set 1 _
    have m40 := e4.mine 0 rfl
    have m41 := e4.mine 1 rfl
    have hgz : Grows w ((x2.now.setCell ⟨b4, 0, none⟩ (.slice none 0 0)).setCell ⟨b4, 1, none⟩ (.slice none 0 0)) := (hgy.set (p := ⟨b4, 0, none⟩) (by rw [HB2.out]; exact hb4) _).set (p := ⟨b4, 1, none⟩) (by rw [HB2.out]; exact hb4) _
    generalize (x2.now.setCell ⟨b4, 0, none⟩ (.slice none 0 0)).setCell ⟨b4, 1, none⟩ (.slice none 0 0) = W9 at *
    refine bodyPost_ret (v := .tuple #[.agg #[.slice none 0 0, .slice none 0 0], .int .i64 1]) (by simp (maxDischargeDepth := 6) [results, Try.results36, go_sem, *]) rfl ⟨rfl, hgz⟩
  · have hb : (rightF N E != 0) = true := by simpa using h0
    clear hbad h0
    generalize rightF N E = r at *
    go_enter Try.func36, Try.ntmps36
    go_upto_region 1 with fail
    obtain ⟨W0, hW0⟩ : ∃ W0, W0 = ((w.alloc (.cells #[.int .i64 N, .slice A n c] 44)).alloc (.cells #[.int .i64 hops, .int .i64 settles, .slice B m d] 37)).alloc (.cells #[.slice none 0 0, .slice none 0 0] 63) := ⟨_, rfl⟩
    have hgw0 : Grows w W0 := by rw [hW0]; exact (((Grows.refl w).new _).new _).new _
    have a2 : Arr W0 w.heap.size 44 [.int .i64 N, .slice A n c] := by rw [hW0]; exact ((Arr.make _ _ _).grow ((Grows.refl _).new _)).grow ((Grows.refl _).new _)
    have a3 : Arr W0 (w.heap.size + 1) 37 [.int .i64 hops, .int .i64 settles, .slice B m d] := by rw [hW0]; have h1 := (Arr.make (w.alloc (.cells #[.int .i64 N, .slice A n c] 44)) [.int .i64 hops, .int .i64 settles, .slice B m d] 37).grow ((Grows.refl _).new (.cells #[.slice none 0 0, .slice none 0 0] 63)); simpa using h1
    have a4 : Arr W0 (w.heap.size + 1 + 1) 63 [.slice none 0 0, .slice none 0 0] := by rw [hW0]; have h1 := Arr.make ((w.alloc (.cells #[.int .i64 N, .slice A n c] 44)).alloc (.cells #[.int .i64 hops, .int .i64 settles, .slice B m d] 37)) [.slice none 0 0, .slice none 0 0] 63; simpa using h1
    have hb4 : w.heap.size ≤ w.heap.size + 1 + 1 := by omega
    have hb42 : w.heap.size + 1 + 1 < W0.heap.size := a4.lt
    rw [← hW0]
    clear hW0
    generalize w.heap.size + 1 + 1 = b4 at *
    generalize w.heap.size + 1 = b3 at *
    generalize hb2 : w.heap.size = b2 at *
    have HB2 := hide hb2
    clear hb2
    go_wp2_with (first
      | (go_at_call 51; refine (C1.out _ GG).mono ?_; rintro e w' ⟨rfl, hg⟩; obtain ⟨x1, rfl⟩ := hg.later; clear hg))
    have hgy : Grows w x1.now := GG
    have a4z := a4.grow x1.grows
    have e4 : Arr ((x1.now.setCell ⟨b4, 0, none⟩ (.slice none 0 0)).setCell ⟨b4, 1, none⟩ (.slice none 0 0)) b4 63 [.slice none 0 0, .slice none 0 0] := (a4z.set 0 _).set 1 _
    have m40 := e4.mine 0 rfl
    have m41 := e4.mine 1 rfl
    have hgz : Grows w ((x1.now.setCell ⟨b4, 0, none⟩ (.slice none 0 0)).setCell ⟨b4, 1, none⟩ (.slice none 0 0)) := (hgy.set (p := ⟨b4, 0, none⟩) (by rw [HB2.out]; exact hb4) _).set (p := ⟨b4, 1, none⟩) (by rw [HB2.out]; exact hb4) _
    generalize (x1.now.setCell ⟨b4, 0, none⟩ (.slice none 0 0)).setCell ⟨b4, 1, none⟩ (.slice none 0 0) = W9 at *
    refine bodyPost_ret (v := .tuple #[.agg #[.slice none 0 0, .slice none 0 0], .int .i64 1]) (by simp (maxDischargeDepth := 6) [results, Try.results36, go_sem, *]) rfl ⟨rfl, hgz⟩
set_option maxHeartbeats 2000000 in
theorem coBuildRange (N : Int) (A : Option Addr) (n c : Nat) (E : List Edg) (hops settles : Int) (B : Option Addr) (m d : Nat) (l : List Int) (w : World) (h : Rd w A 3 n (esCells E)) (hn : n ≤ 1000000) (hl : Rd w B 1 m (l.map (.int .i64))) (hm : m ≤ 1000000) (hok : rightF N E = 0) (hor : coRB hops settles l = true) (hm0 : 0 < m) (hmN : (m : Int) ≠ N) :
    Calls Try.prog 36 #[.agg #[.int .i64 N, .slice A n c], .agg #[.int .i64 hops, .int .i64 settles, .slice B m d]] w fun e w' => e = .returned (.tuple #[.agg #[.slice none 0 0, .slice none 0 0], .int .i64 2]) ∧ Grows w w' := by
  have C1 := hide (fun (W : World) (g : Grows w W) => gRight N A n c E W (h.grows g) hn)
  have C2 := hide (fun (W : World) (g : Grows w W) => coRight hops settles B m d l W (hl.grows g) hm)
  have hb : ((m : Int) != N) = true := by simpa using hmN
  rw [hok] at C1
  rw [hor] at C2
  clear h hl hmN
  go_enter Try.func36, Try.ntmps36
  go_upto_region 1 with fail
  obtain ⟨W0, hW0⟩ : ∃ W0, W0 = ((w.alloc (.cells #[.int .i64 N, .slice A n c] 44)).alloc (.cells #[.int .i64 hops, .int .i64 settles, .slice B m d] 37)).alloc (.cells #[.slice none 0 0, .slice none 0 0] 63) := ⟨_, rfl⟩
  have hgw0 : Grows w W0 := by rw [hW0]; exact (((Grows.refl w).new _).new _).new _
  have a2 : Arr W0 w.heap.size 44 [.int .i64 N, .slice A n c] := by rw [hW0]; exact ((Arr.make _ _ _).grow ((Grows.refl _).new _)).grow ((Grows.refl _).new _)
  have a3 : Arr W0 (w.heap.size + 1) 37 [.int .i64 hops, .int .i64 settles, .slice B m d] := by rw [hW0]; have h1 := (Arr.make (w.alloc (.cells #[.int .i64 N, .slice A n c] 44)) [.int .i64 hops, .int .i64 settles, .slice B m d] 37).grow ((Grows.refl _).new (.cells #[.slice none 0 0, .slice none 0 0] 63)); simpa using h1
  have a4 : Arr W0 (w.heap.size + 1 + 1) 63 [.slice none 0 0, .slice none 0 0] := by rw [hW0]; have h1 := Arr.make ((w.alloc (.cells #[.int .i64 N, .slice A n c] 44)).alloc (.cells #[.int .i64 hops, .int .i64 settles, .slice B m d] 37)) [.slice none 0 0, .slice none 0 0] 63; simpa using h1
  have hb4 : w.heap.size ≤ w.heap.size + 1 + 1 := by omega
  have hb42 : w.heap.size + 1 + 1 < W0.heap.size := a4.lt
  rw [← hW0]
  clear hW0
  generalize w.heap.size + 1 + 1 = b4 at *
  generalize w.heap.size + 1 = b3 at *
  generalize hb2 : w.heap.size = b2 at *
  have HB2 := hide hb2
  clear hb2
  go_wp2_with (first
    | (go_at_call 51; refine (C1.out _ GG).mono ?_; rintro e w' ⟨rfl, hg⟩; obtain ⟨x1, rfl⟩ := hg.later; clear hg)
    | (go_at_call 41; refine (C2.out _ GG).mono ?_; rintro e w' ⟨rfl, hg⟩; obtain ⟨x2, rfl⟩ := hg.later; clear hg))
  have hgy : Grows w x2.now := GG
  have a4z := (a4.grow x1.grows).grow x2.grows
  have e4 : Arr ((x2.now.setCell ⟨b4, 0, none⟩ (.slice none 0 0)).setCell ⟨b4, 1, none⟩ (.slice none 0 0)) b4 63 [.slice none 0 0, .slice none 0 0] := (a4z.set 0 _).set 1 _
  have m40 := e4.mine 0 rfl
  have m41 := e4.mine 1 rfl
  have hgz : Grows w ((x2.now.setCell ⟨b4, 0, none⟩ (.slice none 0 0)).setCell ⟨b4, 1, none⟩ (.slice none 0 0)) := (hgy.set (p := ⟨b4, 0, none⟩) (by rw [HB2.out]; exact hb4) _).set (p := ⟨b4, 1, none⟩) (by rw [HB2.out]; exact hb4) _
  generalize (x2.now.setCell ⟨b4, 0, none⟩ (.slice none 0 0)).setCell ⟨b4, 1, none⟩ (.slice none 0 0) = W9 at *
  refine bodyPost_ret (v := .tuple #[.agg #[.slice none 0 0, .slice none 0 0], .int .i64 2]) (by simp (maxDischargeDepth := 6) [results, Try.results36, go_sem, *]) rfl ⟨rfl, hgz⟩
theorem Own.capB {w : World} {B n c size : Nat} {e : TypeId} {A : Option Addr} {xs : List Value} (h : Own w B e size A n c xs) : n ≤ c := by
  rcases h.2 with ⟨h1, h2⟩ | ⟨g', cap, cur, h1, _, _, h4, _⟩
  · omega
  · injection h1 with h1 _ h5
    omega
def GiveH (w : World) (N hops settles : Nat) (E : List Edg) (rk : List Nat → Prop) (e : Ending) (w' : World) : Prop :=
  ∃ gr cr As cs r vs, e = .returned (.tuple #[.agg #[.slice (some ⟨gr, 0, none⟩) N cr, .slice As (Ctr.goAll hops settles vs (ctrG N E)).S.length cs], .int .i64 0]) ∧ InvR N r vs ∧ rk r ∧ Row1 w' gr 3 1 N cr (nv r) ∧ Rd w' As 6 (Ctr.goAll hops settles vs (ctrG N E)).S.length (hss (Ctr.goAll hops settles vs (ctrG N E)).S) ∧ (Ctr.goAll hops settles vs (ctrG N E)).S.length ≤ cs ∧ Grows w w'
theorem CoreAt.parts {w : World} {S : Nat → Prop} {P : CorePl} {c : Ctr} (h : CoreAt w S P c) : ∃ R : CoreRw, Arr w P.b 150 (P.cells R c.S.length) ∧ S P.b ∧ Rd w R.As 6 c.S.length (hss c.S) ∧ (∀ p, R.As = some p → S p.block) ∧ c.S.length ≤ R.cs := by
  obtain ⟨R, hX, hS⟩ := h
  exact ⟨R, hX.core, hS _ (.inl rfl), hX.list.rd, fun p hp => hS _ (.inr (.inr (.inr (.inr (.inr (.inl ⟨p, hp, rfl⟩)))))), hX.list.capB⟩
set_option maxRecDepth 20000 in
set_option maxHeartbeats 4000000 in
theorem coBuildOrd (N : Nat) (A : Option Addr) (n c : Nat) (E : List Edg) (hops settles : Nat) (B : Option Addr) (d : Nat) (w : World) (h : Rd w A 3 n (esCells E)) (hok : rightF N E = 0) (hor : coRB hops settles [] = true) (hN : N ≤ 12) (hE : E.length ≤ 40) :
    Calls Try.prog 36 #[.agg #[.int .i64 (N : Int), .slice A n c], .agg #[.int .i64 (hops : Int), .int .i64 (settles : Int), .slice B 0 d]] w (GiveH w N hops settles E (fun _ => True)) := by
  have hel := h.elen
  have C1 := hide (fun (W : World) (g : Grows w W) => gRight N A n c E W (h.grows g) (by omega))
  have C2 := hide (fun (W : World) (g : Grows w W) => coRight hops settles B 0 d [] W ⟨by simp, fun e => absurd e (by omega)⟩ (by omega))
  have C3 := hide (fun (W : World) (g : Grows w W) => coBegun N A c E hops settles (.slice B 0 d) W (by rw [hel]; exact h.grows g) (edgC_of hok) (by omega) (by omega))
  have HALL := hide (ctAll_of (hops := hops) (settles := settles) hok hN hE)
  rw [hok] at C1
  rw [hor] at C2
  rw [hel] at C3
  have hlim : hops ≤ 1000 ∧ settles ≤ 1000 := by
    unfold coRB at hor
    simp at hor
    omega
  obtain ⟨hl1, hl2⟩ := hlim
  unfold GiveBg at C3
  clear h hel hE hok hor
  go_enter Try.func36, Try.ntmps36
  go_upto_region 1 with fail
  obtain ⟨W0, hW0⟩ : ∃ W0, W0 = ((w.alloc (.cells #[.int .i64 (N : Int), .slice A n c] 44)).alloc (.cells #[.int .i64 (hops : Int), .int .i64 (settles : Int), .slice B 0 d] 37)).alloc (.cells #[.slice none 0 0, .slice none 0 0] 63) := ⟨_, rfl⟩
  have hgw0 : Grows w W0 := by rw [hW0]; exact (((Grows.refl w).new _).new _).new _
  have a2 : Arr W0 w.heap.size 44 [.int .i64 (N : Int), .slice A n c] := by rw [hW0]; exact ((Arr.make _ _ _).grow ((Grows.refl _).new _)).grow ((Grows.refl _).new _)
  have a3 : Arr W0 (w.heap.size + 1) 37 [.int .i64 (hops : Int), .int .i64 (settles : Int), .slice B 0 d] := by rw [hW0]; have h1 := (Arr.make (w.alloc (.cells #[.int .i64 (N : Int), .slice A n c] 44)) [.int .i64 (hops : Int), .int .i64 (settles : Int), .slice B 0 d] 37).grow ((Grows.refl _).new (.cells #[.slice none 0 0, .slice none 0 0] 63)); simpa using h1
  have a4 : Arr W0 (w.heap.size + 1 + 1) 63 [.slice none 0 0, .slice none 0 0] := by rw [hW0]; have h1 := Arr.make ((w.alloc (.cells #[.int .i64 (N : Int), .slice A n c] 44)).alloc (.cells #[.int .i64 (hops : Int), .int .i64 (settles : Int), .slice B 0 d] 37)) [.slice none 0 0, .slice none 0 0] 63; simpa using h1
  have hb4 : w.heap.size ≤ w.heap.size + 1 + 1 := by omega
  have hb42 : w.heap.size + 1 + 1 < W0.heap.size := a4.lt
  rw [← hW0]
  clear hW0
  generalize w.heap.size + 1 + 1 = b4 at *
  generalize w.heap.size + 1 = b3 at *
  generalize hb2 : w.heap.size = b2 at *
  have HB2 := hide hb2
  clear hb2
  go_upto_region 6 with (first
    | (go_at_call 51; refine (C1.out _ GG).mono ?_; rintro e w' ⟨rfl, hg⟩; obtain ⟨x1, rfl⟩ := hg.later; clear hg)
    | (go_at_call 41; refine (C2.out _ GG).mono ?_; rintro e w' ⟨rfl, hg⟩; obtain ⟨x2, rfl⟩ := hg.later; clear hg)
    | (go_at_call 71; refine (C3.out _ GG).mono ?_; rintro e w' ⟨P, rfl, hPN, hPh, hPs, hPr, hc, hg⟩; obtain ⟨x3, rfl⟩ := hg.later; have HP := hide (And.intro hPN (And.intro hPh (And.intro hPs hPr))); have HC := hide hc; clear hg hPN hPh hPs hPr hc))
  obtain ⟨rfl, rfl, rfl, hrk⟩ := HP.out
  have CO := hide (coOrder P (ctrG P.N E) (New x2.now x3.now) x3.now HC.out (fun k hk => hk.2) HALL.out (by omega) hl1 hl2)
  have CI := hide (fun (A1 : Option Addr) (c1 : Nat) (out : List Nat) (W : World) (h1 : Rd W A1 1 P.N (nv out)) (h2 : out.Nodup) (h3 : out.length = P.N) (h4 : ∀ v ∈ out, v < P.N) => rkInverse A1 P.N c1 out W h1 (by omega) h2 (fun v hv => by rw [h3]; exact h4 v hv))
  have hPb : x2.now.heap.size ≤ P.b := by
    obtain ⟨_, _, hS, _⟩ := HC.out.parts
    exact hS.1
  have hx1 := x1.size
  have hx2 := x2.size
  have a3z := ((a3.grow x1.grows).grow x2.grows)
  have a4z := ((a4.grow x1.grows).grow x2.grows)
  have hgy2 : Grows w x2.now := GG
  unfold GiveOrd at CO
  clear hrk HP C1 C2 C3 a2 a3 a4 HC
  go_upto_region 14 with (first
    | (go_at_call 73; refine (CO.out).mono ?_; rintro e w4 ⟨Ao, co, out, rfl, ho1, ho2, ho3, ho4, ho5, ho6⟩; have HG4 := hide (ho6.later x3.grows (fun k hk => hk.1)); obtain ⟨y4, rfl⟩ := HG4.out.later; have HO4 := hide (And.intro ho1 (And.intro ho2 ho3)); have HOW := hide ho4; have HCO := hide ho5; clear ho1 ho2 ho3 ho4 ho5 ho6 HG4)
    | (go_at_call 72; refine (CI.out _ _ _ _ HOW.out.rd HO4.out.1 HO4.out.2.1 HO4.out.2.2).mono ?_; rintro e w5 ⟨gr, V, rfl, hI, hV, hgl, hg⟩; obtain ⟨y5, rfl⟩ := hg.later; have HI := hide hI; have HV := hide hV; have HGL := hide hgl; clear hI hV hgl hg))
  have hx3 := x3.size
  have hy4 := y4.size
  obtain ⟨R, q1, q2, q3, q4, q5⟩ := HCO.out.parts
  have HCAP := hide q5
  have qb : ∀ k, (New x2.now x3.now k ∨ New x3.now y4.now k) → k ≠ b4 := fun k hk => by rcases hk with hk | hk <;> have := hk.1 <;> omega
  have ag : gr ≠ b4 := by have := HGL.out; omega
  have aw4 : Arr (y5.now.setCell ⟨b4, 0, none⟩ (.slice (some ⟨gr, 0, none⟩) P.N P.N)) b4 63 [.slice (some ⟨gr, 0, none⟩) P.N P.N, .slice none 0 0] := ((a4z.grow y4.grows).grow y5.grows).set 0 _
  have awc := (q1.grow y5.grows).other (p := ⟨b4, 0, none⟩) (fun e => qb _ q2 e.symm) (.slice (some ⟨gr, 0, none⟩) P.N P.N)
  have HRW := hide ((HV.out.row (n := P.N) (size := 1) (by have := HI.out.vl; simp [nv, this]) (by omega)).other (p := ⟨b4, 0, none⟩) (Ne.symm ag) (.slice (some ⟨gr, 0, none⟩) P.N P.N))
  have HLS := hide ((q3.grows y5.grows).touch ((Touch.refl (fun k => k = b4) y5.now).set (p := ⟨b4, 0, none⟩) (.inl rfl) (.slice (some ⟨gr, 0, none⟩) P.N P.N)) (fun p hp e => qb _ (q4 p hp) e))
  have HQ4 := hide (fun p hp e => qb _ (q4 p hp) e)
  have HGW := hide (((hgy2.trans y4.grows).trans y5.grows).set (p := ⟨b4, 0, none⟩) (by show w.heap.size ≤ b4; have := hgw0.size; rw [HB2.out]; exact hb4) (.slice (some ⟨gr, 0, none⟩) P.N P.N))
  have HAG := hide ag
  unfold CorePl.cells at awc
  clear q1 q2 q3 q4 q5 qb ag hx3 hy4 a3z a4z hgy2 hgw0 hb42 hx1 hx2 hPb HOW HCO HV CO CI HALL
  generalize y5.now.setCell ⟨b4, 0, none⟩ (.slice (some ⟨gr, 0, none⟩) P.N P.N) = W7 at *
  obtain ⟨S, hS⟩ : ∃ S, S = (Ctr.goAll P.hops P.settles out (ctrG P.N E)).S := ⟨_, rfl⟩
  rw [← hS] at HLS awc HCAP
  have HSS := hide hS
  clear hS
  go_wp2_with fail
  have ht : Touch (fun k => k = b4) W7 (((W7.setCell ⟨b4, 1, none⟩ (.slice R.As S.length R.cs)).setCell ⟨b4, 0, none⟩ (.slice (some ⟨gr, 0, none⟩) P.N P.N)).setCell ⟨b4, 1, none⟩ (.slice R.As S.length R.cs)) := (((Touch.refl (fun k => k = b4) W7).set (p := ⟨b4, 1, none⟩) (.inl rfl) _).set (p := ⟨b4, 0, none⟩) (.inl rfl) _).set (p := ⟨b4, 1, none⟩) (.inl rfl) _
  have ae : Arr (((W7.setCell ⟨b4, 1, none⟩ (.slice R.As S.length R.cs)).setCell ⟨b4, 0, none⟩ (.slice (some ⟨gr, 0, none⟩) P.N P.N)).setCell ⟨b4, 1, none⟩ (.slice R.As S.length R.cs)) b4 63 [.slice (some ⟨gr, 0, none⟩) P.N P.N, .slice R.As S.length R.cs] := ((aw4.set 1 _).set 0 _).set 1 _
  generalize ((W7.setCell ⟨b4, 1, none⟩ (.slice R.As S.length R.cs)).setCell ⟨b4, 0, none⟩ (.slice (some ⟨gr, 0, none⟩) P.N P.N)).setCell ⟨b4, 1, none⟩ (.slice R.As S.length R.cs) = W9 at *
  have m0 := ae.mine 0 rfl
  have m1 := ae.mine 1 rfl
  have HT := hide ht
  clear ht
  refine bodyPost_ret (v := .tuple #[.agg #[.slice (some ⟨gr, 0, none⟩) P.N P.N, .slice R.As S.length R.cs], .int .i64 0]) (by simp (maxDischargeDepth := 6) [results, Try.results36, go_sem, *]) rfl ?_
  refine ⟨gr, P.N, R.As, R.cs, V, out, by rw [← HSS.out], HI.out.symm, trivial, HRW.out.touch HT.out (fun e => HAG.out e), ?_, by rw [← HSS.out]; exact HCAP.out, HT.out.later HGW.out (fun k hk => by rw [hk, HB2.out]; exact hb4)⟩
  rw [← HSS.out]
  exact HLS.out.touch HT.out (fun p hp e => HQ4.out p hp e)
theorem take_gn {V : List Nat} {k : Nat} (h : k < V.length) : V.take (k + 1) = V.take k ++ [gn V k] := by
  rw [List.take_add_one, List.getElem?_eq_getElem h]
  simp [gn, List.getD_eq_getElem?_getD, List.getElem?_eq_getElem h]
set_option maxRecDepth 20000 in
set_option maxHeartbeats 4000000 in
theorem coBuildRank (N : Nat) (A : Option Addr) (n c : Nat) (E : List Edg) (hops settles : Nat) (B : Option Addr) (d : Nat) (r : List Nat) (w : World) (h : Rd w A 3 n (esCells E)) (hok : rightF N E = 0) (hr : Rd w B 1 N (nv r)) (hor : coRB hops settles (nvI r) = true) (hN : N ≤ 12) (hE : E.length ≤ 40) :
    Calls Try.prog 36 #[.agg #[.int .i64 (N : Int), .slice A n c], .agg #[.int .i64 (hops : Int), .int .i64 (settles : Int), .slice B N d]] w (GiveH w N hops settles E (fun r' => r' = r)) := by
  have hel := h.elen
  have hN0 : 0 < N := by have := (right_in hok).1; omega
  have hrl : r.length = N := by have := hr.len; simpa [nv] using this
  have C1 := hide (fun (W : World) (g : Grows w W) => gRight N A n c E W (h.grows g) (by omega))
  have C2 := hide (fun (W : World) (g : Grows w W) => coRight hops settles B N d (nvI r) W (by rw [← nvI_vals]; exact hr.grows g) (by omega))
  have C3 := hide (fun (W : World) (g : Grows w W) => coBegun N A c E hops settles (.slice B N d) W (by rw [hel]; exact h.grows g) (edgC_of hok) (by omega) (by omega))
  have C4 := hide (fun (W : World) (g : Grows w W) => cloneN B N d r W (hr.grows g) hN0 (by omega))
  have HALL := hide (ctAll_of (hops := hops) (settles := settles) hok hN hE)
  rw [hok] at C1
  rw [hor] at C2
  rw [hel] at C3
  have hlim : (hops ≤ 1000 ∧ settles ≤ 1000) ∧ rkB (nvI r) = true := by
    unfold coRB at hor
    simp at hor
    exact ⟨by omega, hor.2⟩
  obtain ⟨⟨hl1, hl2⟩, hrk⟩ := hlim
  have hrn : r.Nodup := nvI_nodup (rkB_of hrk).1
  have hrt : ∀ v ∈ r, v < r.length := fun v hv => by
    have := (rkB_of hrk).2 (v : Int) (by unfold nvI; exact List.mem_map.2 ⟨v, hv, rfl⟩)
    unfold nvI at this
    rw [List.length_map] at this
    omega
  have C5 := hide (fun (W : World) (g : Grows w W) => rkInverse B N d r W (hr.grows g) (by omega) hrn hrt)
  unfold GiveBg at C3
  clear h hel hE hok hor hr hrl hrk hrn hrt
  go_enter Try.func36, Try.ntmps36
  go_upto_region 1 with fail
  obtain ⟨W0, hW0⟩ : ∃ W0, W0 = ((w.alloc (.cells #[.int .i64 (N : Int), .slice A n c] 44)).alloc (.cells #[.int .i64 (hops : Int), .int .i64 (settles : Int), .slice B N d] 37)).alloc (.cells #[.slice none 0 0, .slice none 0 0] 63) := ⟨_, rfl⟩
  have hgw0 : Grows w W0 := by rw [hW0]; exact (((Grows.refl w).new _).new _).new _
  have a2 : Arr W0 w.heap.size 44 [.int .i64 (N : Int), .slice A n c] := by rw [hW0]; exact ((Arr.make _ _ _).grow ((Grows.refl _).new _)).grow ((Grows.refl _).new _)
  have a3 : Arr W0 (w.heap.size + 1) 37 [.int .i64 (hops : Int), .int .i64 (settles : Int), .slice B N d] := by rw [hW0]; have h1 := (Arr.make (w.alloc (.cells #[.int .i64 (N : Int), .slice A n c] 44)) [.int .i64 (hops : Int), .int .i64 (settles : Int), .slice B N d] 37).grow ((Grows.refl _).new (.cells #[.slice none 0 0, .slice none 0 0] 63)); simpa using h1
  have a4 : Arr W0 (w.heap.size + 1 + 1) 63 [.slice none 0 0, .slice none 0 0] := by rw [hW0]; have h1 := Arr.make ((w.alloc (.cells #[.int .i64 (N : Int), .slice A n c] 44)).alloc (.cells #[.int .i64 (hops : Int), .int .i64 (settles : Int), .slice B N d] 37)) [.slice none 0 0, .slice none 0 0] 63; simpa using h1
  have hb4 : w.heap.size ≤ w.heap.size + 1 + 1 := by omega
  have hb42 : w.heap.size + 1 + 1 < W0.heap.size := a4.lt
  have hb34 : ¬ w.heap.size + 1 + 1 = w.heap.size + 1 := by omega
  rw [← hW0]
  clear hW0
  generalize w.heap.size + 1 + 1 = b4 at *
  generalize w.heap.size + 1 = b3 at *
  generalize hb2 : w.heap.size = b2 at *
  have HB2 := hide hb2
  clear hb2
  go_upto_region 6 with (first
    | (go_at_call 51; refine (C1.out _ GG).mono ?_; rintro e w' ⟨rfl, hg⟩; obtain ⟨x1, rfl⟩ := hg.later; clear hg)
    | (go_at_call 41; refine (C2.out _ GG).mono ?_; rintro e w' ⟨rfl, hg⟩; obtain ⟨x2, rfl⟩ := hg.later; clear hg)
    | (go_at_call 71; refine (C3.out _ GG).mono ?_; rintro e w' ⟨P, rfl, hPN, hPh, hPs, hPr, hc, hg⟩; obtain ⟨x3, rfl⟩ := hg.later; have HP := hide (And.intro hPN (And.intro hPh (And.intro hPs hPr))); have HC := hide hc; clear hg hPN hPh hPs hPr hc))
  obtain ⟨rfl, rfl, rfl, hrk⟩ := HP.out
  have hPb : x2.now.heap.size ≤ P.b := by
    obtain ⟨_, _, hS, _⟩ := HC.out.parts
    exact hS.1
  have hx1 := x1.size
  have hx2 := x2.size
  have hx3 := x3.size
  have a3z := ((a3.grow x1.grows).grow x2.grows).grow x3.grows
  have a4z := ((a4.grow x1.grows).grow x2.grows).grow x3.grows
  have hgy3 : Grows w x3.now := GG
  clear hrk HP C1 C2 C3 a2 a3 a4
  go_upto_region 9 with (go_at_call 61; refine (C4.out _ GG).mono ?_; rintro e w4 ⟨gr, cr, rfl, hr1, hgl, hg⟩; obtain ⟨y4, rfl⟩ := hg.later; have HR1 := hide hr1; have HGL := hide hgl; clear hr1 hgl hg)
  have hy4 := y4.size
  have ag : gr ≠ b4 := by have := HGL.out; omega
  have a35 : Arr (y4.now.setCell ⟨b4, 0, none⟩ (.slice (some ⟨gr, 0, none⟩) P.N cr)) b3 37 [.int .i64 (P.hops : Int), .int .i64 (P.settles : Int), .slice B P.N d] := (a3z.grow y4.grows).other (p := ⟨b4, 0, none⟩) hb34 _
  have a45 : Arr (y4.now.setCell ⟨b4, 0, none⟩ (.slice (some ⟨gr, 0, none⟩) P.N cr)) b4 63 [.slice (some ⟨gr, 0, none⟩) P.N cr, .slice none 0 0] := (a4z.grow y4.grows).set 0 _
  have HRW := hide (HR1.out.other (p := ⟨b4, 0, none⟩) (Ne.symm ag) (.slice (some ⟨gr, 0, none⟩) P.N cr))
  have HC5 := hide ((HC.out.touch (y4.grows.touch (fun _ => False)) (fun _ _ => id)).touch ((Touch.refl (fun k => k = b4) y4.now).set (p := ⟨b4, 0, none⟩) (.inl rfl) (.slice (some ⟨gr, 0, none⟩) P.N cr)) (fun k hk e => by have := hk.1; omega))
  have hgw5 : Grows w (y4.now.setCell ⟨b4, 0, none⟩ (.slice (some ⟨gr, 0, none⟩) P.N cr)) := (hgy3.trans y4.grows).set (p := ⟨b4, 0, none⟩) (by show w.heap.size ≤ b4; rw [HB2.out]; exact hb4) _
  have hs5 : y4.now.heap.size = (y4.now.setCell ⟨b4, 0, none⟩ (.slice (some ⟨gr, 0, none⟩) P.N cr)).heap.size := (size_setCell _ _ _).symm
  have hgl : x3.now.heap.size ≤ gr ∧ gr < y4.now.heap.size := ⟨HGL.out, HR1.out.lt⟩
  have HAG := hide ag
  clear hb34 ag a3z a4z hgy3 hgw0 HR1 HGL HC C4
  generalize y4.now.setCell ⟨b4, 0, none⟩ (.slice (some ⟨gr, 0, none⟩) P.N cr) = W5 at *
  have HSZ := hide (And.intro hs5 (And.intro hgl (And.intro hb42 (And.intro hx1 (And.intro hx2 (And.intro hx3 (And.intro hPb hy4)))))))
  clear hs5 hgl hb42 hx1 hx2 hx3 hPb hy4
  go_wp2_with (go_at_call 72; refine (C5.out _ GG).mono ?_; rintro e w6 ⟨gv, V, rfl, hI, hV, hgl, hg⟩; obtain ⟨y6, rfl⟩ := hg.later; have HI := hide hI; have HV := hide hV; have HGV := hide hgl; clear hI hV hgl hg)
  have hy6 := y6.size
  obtain ⟨SC0, hSC0⟩ : ∃ SC0, SC0 = New x2.now x3.now := ⟨_, rfl⟩
  have HSC := hide (show ∀ k, SC0 k → w.heap.size ≤ k ∧ k ≠ b4 ∧ k ≠ gr ∧ k < y6.now.heap.size ∧ k ≠ gv from fun k hk => by
    rw [hSC0] at hk
    obtain ⟨h1, ⟨h2, h3⟩, h4, h5, h6, h7, h8, h9⟩ := HSZ.out
    have h10 := HGV.out
    have h11 := HB2.out
    have := hk.1
    have := hk.2
    exact ⟨by omega, by omega, by omega, by omega, by omega⟩)
  rw [← hSC0] at HC5
  have HCY := hide ((HC5.out.touch (y6.grows.touch (fun _ => False)) (fun _ _ => id)).mono (S' := fun j => SC0 j ∨ New y6.now y6.now j) (fun j hj => .inl hj))
  have HG6 := hide (hgw5.trans y6.grows)
  have HA4 := hide (a45.grow y6.grows)
  have HR6 := hide (HRW.out.grow y6.grows)
  have hlt4 : w.heap.size ≤ b4 := by rw [HB2.out]; exact hb4
  have HL4 := hide (And.intro hlt4 (And.intro a45.lt HRW.out.lt))
  obtain ⟨c0, hc0⟩ : ∃ c0, c0 = ctrG P.N E := ⟨_, rfl⟩
  rw [← hc0] at HALL HCY
  have HC0 := hide hc0
  clear hc0 hSC0 HC5 HSZ a35 a45 HRW hgw5 C5 hb4 hlt4
  go_loopw [52] (fun i wr => ∃ k : Nat, k ≤ P.N ∧ i = .int .i64 (k : Int) ∧ Touch SC0 y6.now wr ∧ CoreAt wr (fun j => SC0 j ∨ New y6.now wr j) P (Ctr.goAll P.hops P.settles (V.take k) c0)) (fun i _ => P.N - (Go.RowKit.intOf i).toNat)
  case atStart => exact ⟨0, by omega, by go_num, Touch.refl _ _, HCY.out⟩
  case round =>
    obtain ⟨k, hk, rfl, ht, hc⟩ := hrel
    have HT := hide ht
    have HC := hide hc
    clear ht hc HCY
    by_cases hlt : k < P.N
    · have hvl := HI.out.vl
      have mv := (HV.out.mine k (nv_at (by rw [hvl]; exact hlt))).touch HT.out (fun e => (HSC.out _ e).2.2.2.2 rfl)
      have hnd : (V.take k).Nodup := HI.out.nodup.sublist (List.take_sublist _ _)
      have hvt : ∀ v ∈ V.take k, v < P.N := fun v hv => HI.out.lt v (List.mem_of_mem_take hv)
      obtain ⟨al1, al2⟩ := HALL.out _ hnd hvt
      have hsz := HT.out.size
      have CCON := hide (coContract P (Ctr.goAll P.hops P.settles (V.take k) c0) (gn V k) 80000 _ wr HC.out (fun j hj => by rcases hj with h1 | h1; exact Nat.lt_of_lt_of_le (HSC.out j h1).2.2.2.1 hsz; exact h1.2) al1 (HI.out.at_ k hlt).1 (by omega) al2.w al2.row (by omega) al2.len (al2.deep _) hl1 hl2)
      have HGO := hide (show Ctr.goAll P.hops P.settles (V.take (k + 1)) c0 = Ctr.go P.hops P.settles (Ctr.goAll P.hops P.settles (V.take k) c0) (gn V k) from by rw [take_gn (by rw [hvl]; exact hlt), goAll_snoc])
      unfold GiveCo at CCON
      clear hnd hvt al1 al2 hsz hvl
      generalize gn V k = v at *
      go_wp2_with (go_at_call 74; refine (CCON.out).mono ?_; rintro e w7 ⟨rfl, hc, ht⟩; have HN := hide (add_after HT.out (Grows.refl _) ht hc); clear hc ht)
      go_roundw
      case measure => simp [Go.RowKit.intOf]; omega
      case rel => exact ⟨k + 1, by omega, by go_num, HN.out.1, by rw [HGO.out]; exact HN.out.2⟩
    · obtain rfl : k = P.N := by omega
      have hvl : V.take P.N = V := List.take_of_length_le (by rw [HI.out.vl]; omega)
      rw [hvl] at HC
      rw [HC0.out] at HC
      clear hvl
      have HCQ := hide HC.out.parts
      obtain ⟨R, q1, q2, q3, q4, q5⟩ := HC.out.parts
      have HCAP := hide q5
      have qb : ∀ k, (SC0 k ∨ New y6.now wr k) → k ≠ b4 := fun k hk => by
        rcases hk with hk | hk
        · exact (HSC.out k hk).2.1
        · have := hk.1; have := HL4.out.2.1; have := y6.size; omega
      have aw4 : Arr wr b4 63 [.slice (some ⟨gr, 0, none⟩) P.N cr, .slice none 0 0] := HA4.out.touch HT.out (fun e => (HSC.out _ e).2.1 rfl)
      have awc := q1
      have HRW := hide (HR6.out.touch HT.out (fun e => (HSC.out _ e).2.2.1 rfl))
      have HLS := hide q3
      have HQ4 := hide (fun p hp e => qb _ (q4 p hp) e)
      have HGW := hide (HT.out.later HG6.out (fun k hk => (HSC.out k hk).1))
      have hb4 := HL4.out.1
      unfold CorePl.cells at awc
      clear q1 q2 q3 q4 q5 qb HCQ HALL HC HT HA4 HR6 HG6 HV HSC
      obtain ⟨S, hS⟩ : ∃ S, S = (Ctr.goAll P.hops P.settles V (ctrG P.N E)).S := ⟨_, rfl⟩
      rw [← hS] at HLS awc HCAP
      have HSS := hide hS
      clear hS
      go_wp2_with fail
      have ht : Touch (fun k => k = b4) wr (((wr.setCell ⟨b4, 1, none⟩ (.slice R.As S.length R.cs)).setCell ⟨b4, 0, none⟩ (.slice (some ⟨gr, 0, none⟩) P.N cr)).setCell ⟨b4, 1, none⟩ (.slice R.As S.length R.cs)) := (((Touch.refl (fun k => k = b4) wr).set (p := ⟨b4, 1, none⟩) (.inl rfl) _).set (p := ⟨b4, 0, none⟩) (.inl rfl) _).set (p := ⟨b4, 1, none⟩) (.inl rfl) _
      have ae : Arr (((wr.setCell ⟨b4, 1, none⟩ (.slice R.As S.length R.cs)).setCell ⟨b4, 0, none⟩ (.slice (some ⟨gr, 0, none⟩) P.N cr)).setCell ⟨b4, 1, none⟩ (.slice R.As S.length R.cs)) b4 63 [.slice (some ⟨gr, 0, none⟩) P.N cr, .slice R.As S.length R.cs] := ((aw4.set 1 _).set 0 _).set 1 _
      generalize ((wr.setCell ⟨b4, 1, none⟩ (.slice R.As S.length R.cs)).setCell ⟨b4, 0, none⟩ (.slice (some ⟨gr, 0, none⟩) P.N cr)).setCell ⟨b4, 1, none⟩ (.slice R.As S.length R.cs) = W9 at *
      have m0 := ae.mine 0 rfl
      have m1 := ae.mine 1 rfl
      have HT := hide ht
      clear ht
      refine bodyPost_ret (v := .tuple #[.agg #[.slice (some ⟨gr, 0, none⟩) P.N cr, .slice R.As S.length R.cs], .int .i64 0]) (by simp (maxDischargeDepth := 6) [results, Try.results36, go_sem, *]) rfl ?_
      refine ⟨gr, cr, R.As, R.cs, r, V, by rw [← HSS.out], HI.out, rfl, HRW.out.touch HT.out (fun e => HAG.out e), ?_, by rw [← HSS.out]; exact HCAP.out, HT.out.later HGW.out (fun k hk => by rw [hk]; exact hb4)⟩
      rw [← HSS.out]
      exact HLS.out.touch HT.out (fun p hp e => HQ4.out p hp e)
end Go.Proofs.Ytgplpgldhoelcaa

namespace Go.Proofs.Ytgplpgldhoelcaa
open Go Go.RowKit
set_option maxHeartbeats 1000000 in
theorem r1Same (A : Option Addr) (n c : Nat) (l : List Int) (B : Option Addr) (m d : Nat) (l' : List Int) (w : World) (h : Rd w A 1 n (l.map (.int .i64))) (hn : n ≤ 1000000) (h' : Rd w B 1 m (l'.map (.int .i64))) (hm : m ≤ 1000000) :
    Calls Try.prog 18 #[.slice A n c, .slice B m d] w fun e w' => e = .returned (.bool (decide (l = l'))) ∧ Grows w w' := by
  have HL := hide (show l.length = n by simpa using h.len)
  have HM := hide (show l'.length = m by simpa using h'.len)
  have HR := hide h
  have HS := hide h'
  clear h h'
  by_cases hnm : n = m
  · subst hnm
    go_enter Try.func18, Try.ntmps18
    go_wp2
    go_loopw [5] (fun i wr => ∃ k : Nat, k ≤ n ∧ i = .int .i64 (k : Int) ∧ (∃ y : Later w, wr = y.now) ∧ ∀ j, j < k → gi l j = gi l' j) (fun i _ => n - (Go.RowKit.intOf i).toNat)
    case atStart => exact ⟨0, by omega, by go_num, ⟨⟨w, Grows.refl w⟩, rfl⟩, fun j h => by omega⟩
    case round =>
      obtain ⟨k, hk, rfl, ⟨y, rfl⟩, hall⟩ := hrel
      have HA := hide hall
      clear hall
      by_cases hend : n ≤ k
      · have HV : Hid (l = l') := by
          apply List.ext_getElem (by rw [HL.out, HM.out])
          intro j h1 h2
          have := HA.out j (by have := HL.out; omega)
          simpa [gi, h1, h2] using this
        go_wp2
        go_ret
        exact ⟨ret_bool (decide_eq_true HV.out).symm, GG⟩
      · obtain ⟨b, off, rfl, hc⟩ := HR.out.intsH (by omega)
        obtain ⟨b2, off2, rfl, hc2⟩ := HS.out.intsH (by omega)
        have c1 := hc k (by omega)
        have c2 := hc2 k (by omega)
        clear hc hc2
        by_cases he : gi l k = gi l' k
        · have HE : Hid (∀ j, j < k + 1 → gi l j = gi l' j) := fun j hj => by
            by_cases e : j = k
            · rw [e]; exact he
            · exact HA.out j (by omega)
          have hd : (gi l k == gi l' k) = true := by simpa using he
          clear he
          generalize gi l k = u at *
          generalize gi l' k = v at *
          go_wp2_with fail
          ((first | refine wp_region_gen (by kernel_rfl) (by kernel_rfl) ?_); (repeat' (first | (refine gLex_val0 rfl (by kernel_rfl) (fun K hK => ?_); (go_simp; (try (simp only [↓IntWalk.iteOmega]; try go_simp)); (try simp (disch := omega) only [IntWalk.i64_in]); (try simp (disch := omega) only [IntWalk.u64_in]); first | (refine hK _ ?_; clear hK K) | (apply Exists.intro; refine ⟨fun x => ?_, hK _ ?_⟩; (first | fail); clear hK K))) | (refine gLex_undef rfl rfl rfl (by kernel_rfl) (fun K hK => ?_); go_simp; refine hK _ ?_; clear hK K) | (refine gLex_ask rfl rfl rfl ?_; first | (apply gAsk_yes; kernel_rfl; intro K hK; (go_simp; (try (simp only [↓IntWalk.iteOmega]; try go_simp)); (try simp (disch := omega) only [IntWalk.i64_in]); (try simp (disch := omega) only [IntWalk.u64_in]); first | (refine hK _ ?_; clear hK K) | (apply Exists.intro; refine ⟨fun x => ?_, hK _ ?_⟩; (first | fail); clear hK K))) | ((first | apply gAsk_no1 | apply gAsk_no2); kernel_rfl; intro K hK; simp [go_sem]; refine hK _ ?_; clear hK K) | (apply gAsk_part; kernel_rfl; all_goals (intro h K hK; (try simp only [Bool.not_true] at h); (try simp only [Bool.not_false] at h); (try simp only [decide_eq_true_eq] at h); (try simp only [decide_eq_false_iff_not] at h); first | (exfalso; first | contradiction | omega) | (go_simp; (try (simp only [↓IntWalk.iteOmega]; try go_simp)); (try simp (disch := omega) only [IntWalk.i64_in]); (try simp (disch := omega) only [IntWalk.u64_in]); first | (refine hK _ ?_; clear hK K) | (apply Exists.intro; refine ⟨fun x => ?_, hK _ ?_⟩; (first | fail); clear hK K))))))); all_goals ((apply gLex_end); intro x))
          go_wp2
          refine ⟨⟨k + 1, by omega, by go_num, Grows.later GG, HE.out⟩, by simp [Go.RowKit.intOf]; omega⟩
        · have HV : Hid (¬ l = l') := fun e => he (by rw [e])
          have hd : (gi l k == gi l' k) = false := by simpa using he
          clear he
          go_wp2_with fail
          ((first | refine wp_region_gen (by kernel_rfl) (by kernel_rfl) ?_); (repeat' (first | (refine gLex_val0 rfl (by kernel_rfl) (fun K hK => ?_); (go_simp; (try (simp only [↓IntWalk.iteOmega]; try go_simp)); (try simp (disch := omega) only [IntWalk.i64_in]); (try simp (disch := omega) only [IntWalk.u64_in]); first | (refine hK _ ?_; clear hK K) | (apply Exists.intro; refine ⟨fun x => ?_, hK _ ?_⟩; (first | fail); clear hK K))) | (refine gLex_undef rfl rfl rfl (by kernel_rfl) (fun K hK => ?_); go_simp; refine hK _ ?_; clear hK K) | (refine gLex_ask rfl rfl rfl ?_; first | (apply gAsk_yes; kernel_rfl; intro K hK; (go_simp; (try (simp only [↓IntWalk.iteOmega]; try go_simp)); (try simp (disch := omega) only [IntWalk.i64_in]); (try simp (disch := omega) only [IntWalk.u64_in]); first | (refine hK _ ?_; clear hK K) | (apply Exists.intro; refine ⟨fun x => ?_, hK _ ?_⟩; (first | fail); clear hK K))) | ((first | apply gAsk_no1 | apply gAsk_no2); kernel_rfl; intro K hK; simp [go_sem]; refine hK _ ?_; clear hK K) | (apply gAsk_part; kernel_rfl; all_goals (intro h K hK; (try simp only [Bool.not_true] at h); (try simp only [Bool.not_false] at h); (try simp only [decide_eq_true_eq] at h); (try simp only [decide_eq_false_iff_not] at h); first | (exfalso; first | contradiction | omega) | (go_simp; (try (simp only [↓IntWalk.iteOmega]; try go_simp)); (try simp (disch := omega) only [IntWalk.i64_in]); (try simp (disch := omega) only [IntWalk.u64_in]); first | (refine hK _ ?_; clear hK K) | (apply Exists.intro; refine ⟨fun x => ?_, hK _ ?_⟩; (first | fail); clear hK K))))))); all_goals ((apply gLex_end); intro x))
          go_wp2
          go_ret
          exact ⟨ret_bool (decide_eq_false HV.out).symm, GG⟩
  · have HV : Hid (¬ l = l') := fun e => hnm (by rw [← HL.out, ← HM.out, e])
    have hd : ((n : Int) == (m : Int)) = false := beq_eq_false_iff_ne.2 (by omega)
    go_enter Try.func18, Try.ntmps18
    go_wp2
    go_ret
    exact ⟨ret_bool (decide_eq_false HV.out).symm, GG⟩
end Go.Proofs.Ytgplpgldhoelcaa

namespace Go.Proofs.Ytgplpgldhoelcaa
open Go Go.ChangeShapes Go.WideShapes Go.ChangeAt Go.RowKit Go.Deep
section
variable {H : Type} {enc : TypeId × Value → H} {P : Program} {w : World} {base b0 : Nat} {held : Bool} {r : Reach} {t : TypeId} {v : Value} {d : DataW H} {p : List MemPlace}
theorem open_copt {f0 f1 f2 : Field} {ei : TypeId} (hs : P.underlying t = some (.struct #[f0, f1, f2])) (k0 : P.underlying f0.type = some (.int .i64)) (k1 : P.underlying f1.type = some (.int .i64)) (k2 : P.underlying f2.type = some (.slice ei))
    (hi : P.underlying ei = some (.int .i64)) (hci : P.cellsOf ei = 1) (hone : oneCellFields P #[f0, f1, f2] = true) (hC : P.cellsOf t = 3)
    (hv : Value.okWide P w r b0 t v) (h : DataW.Trod enc P w base (fun _ => true) held t v d p) :
    ∃ (x y : Int) (A : Option Addr) (n c : Nat) (z : List Int), v = .agg #[.int .i64 x, .int .i64 y, .slice A n c] ∧ I64 x ∧ I64 y ∧ n ≤ c ∧ Rd w A 1 n (z.map (.int .i64)) ∧ ∀ u ∈ z, (Lit.int .i64 u).wf = true := by
  obtain ⟨cs, rfl, hsz⟩ := okWide_struct hs hv
  obtain ⟨l⟩ := cs
  match l, hsz.trans hC with
  | [c0, c1, c2], _ =>
    obtain ⟨fuel, hf⟩ := h
    obtain ⟨xs, n, _, hx, _, hlen, hg⟩ := DataW.trod_struct hs hf
    obtain ⟨o0, m0⟩ := hone_of hone 0 f0 rfl
    obtain ⟨o1, m1⟩ := hone_of hone 1 f1 rfl
    obtain ⟨o2, m2⟩ := hone_of hone 2 f2 rfl
    match xs, hlen with
    | [y0, y1, y2], _ =>
      have t0 : DataW.trod enc P w base (fun _ => true) held n f0.type [c0] = some y0 := by simpa [Value.cells, o0, m0] using hg 0 f0 rfl
      have t1 : DataW.trod enc P w base (fun _ => true) held n f1.type [c1] = some y1 := by simpa [Value.cells, o1, m1] using hg 1 f1 rfl
      have t2 : DataW.trod enc P w base (fun _ => true) held n f2.type [c2] = some y2 := by simpa [Value.cells, o2, m2] using hg 2 f2 rfl
      obtain ⟨x, e0, _, w0⟩ := DataW.trod_int k0 t0
      obtain ⟨y, e1, _, w1⟩ := DataW.trod_int k1 t1
      obtain ⟨A, n2, d2, z, e2, hl, r2, w2⟩ := open_numsF k2 hi hci t2
      simp at e0 e1 e2
      subst e0 e1 e2
      exact ⟨x, y, A, n2, d2, z, rfl, wf_i64 w0, wf_i64 w1, hl, r2, w2⟩
end
end Go.Proofs.Ytgplpgldhoelcaa

namespace Go.Proofs.Ytgplpgldhoelcaa
open Go Go.RowKit
attribute [local go_sem] Oper.semAt_some
theorem goAll_small {N hops settles : Nat} {E : List Edg} {r vs : List Nat} (h : rightF N E = 0) (hN : N ≤ 12) (hE : E.length ≤ 40) (hi : InvR N r vs) : (Ctr.goAll hops settles vs (ctrG N E)).S.length ≤ 2000 ∧ ∀ i, i < (Ctr.goAll hops settles vs (ctrG N E)).S.length → (gs (Ctr.goAll hops settles vs (ctrG N E)).S i).w ≤ 17592186044416 := by
  have hW : ∀ i, i < E.length → (ge E i).w.toNat ≤ 4294967296 := fun i hi => by have := (right_in h).2.2.2.2 i hi; omega
  have hb := goAll_b h (right_ne h) hW (hops := hops) (settles := settles) vs.length vs rfl hi.nodup hi.lt
  have hl := hi.vl
  rw [hl] at hb
  have h2 : 2 ^ N ≤ 2 ^ 12 := Nat.pow_le_pow_right (by omega) (by omega)
  have h3 : N * N ≤ 12 * 12 := Nat.mul_le_mul hN hN
  have h4 : N * (N * N) ≤ 12 * (12 * 12) := Nat.mul_le_mul (by omega) h3
  have h5 : 2 ^ N * 4294967296 ≤ 2 ^ 12 * 4294967296 := Nat.mul_le_mul h2 (Nat.le_refl _)
  exact ⟨Nat.le_trans hb.len (by omega), fun i hi => Nat.le_trans (hb.sw i hi) (by omega)⟩
theorem wrap_sum (a b : Nat) (h : a ≤ 17592186044416) (k : b ≤ 17592186044416) : IntKind.u64.wrap ((a : Int) + (b : Int)) = (a : Int) + (b : Int) := by
  unfold IntKind.wrap
  simp [IntKind.signed, IntKind.bits]
  omega
theorem madeL_si {N : Nat} {E : List Edg} {r : List Nat} {S : List Sc} (hok : rightF N E = 0) (hrl : r.length = N) (h : MadeL N E r S) (hw : ∀ i, i < S.length → (gs S i).w ≤ 17592186044416) : ∀ i, i < S.length → madeOne E (nvI r) (S.map Sc.si) i = true := by
  intro i hi
  obtain ⟨e1, e2, e3⟩ := h.ends i hi
  have hgi : ∀ v, v < N → gi (nvI r) v = (gn r v : Int) := fun v hv => nvI_gi r v (by rw [hrl]; exact hv)
  unfold madeOne
  rw [gsi_of hi]
  rcases h.made i hi with ⟨e, he, hs⟩ | ⟨h1, A, B, h2, h3, h4, h5, h6, h7, h8, h9, h10, h11⟩
  · obtain ⟨_, _, _, r4, r5⟩ := right_in hok
    have q1 := (r4.f e he).2
    have q2 := (r4.t e he).2
    have q3 := (r5 e he).1
    rw [hs]
    have : edgeSB E (Sc.si ⟨fN E e, tN E e, (ge E e).w.toNat, (e : Int), -1, -1⟩) = true := by
      unfold edgeSB Sc.si
      simp only [Int.toNat_natCast, Bool.and_eq_true, decide_eq_true_eq, beq_iff_eq]
      refine ⟨⟨by omega, by omega, ?_, ?_⟩, q1, q2, by omega⟩ <;> trivial
    rw [this]
    rfl
  · have : twoSB (nvI r) (S.map Sc.si) i = true := by
      have hA : A < S.length := by omega
      have hB : B < S.length := by omega
      have gA := gsi_of (L := S) hA
      have gB := gsi_of (L := S) hB
      have gI := gsi_of (L := S) hi
      unfold twoSB
      rw [gI]
      have ea : (gs S i).si.a = (A : Int) := h2
      have eb : (gs S i).si.b = (B : Int) := h3
      rw [ea, eb, Int.toNat_natCast, Int.toNat_natCast, gA, gB]
      have hAt := (h.ends A hA).2.1
      have hs := wrap_sum (gs S A).w (gs S B).w (hw A hA) (hw B hB)
      unfold Sc.si
      dsimp only
      rw [hs]
      simp only [Int.toNat_natCast, Bool.and_eq_true, decide_eq_true_eq, ne_eq]
      rw [hgi _ hAt, hgi _ e1, hgi _ e2]
      exact ⟨⟨h1, by omega, by omega, by omega, by omega, by omega⟩, ⟨by omega, by omega, by omega, by omega⟩, by omega, by omega⟩
    rw [this, Bool.or_true]
theorem light20_of {N : Int} {n : Nat} (h : light20B N n = true) : (N ≤ 12 ∨ 4096 < N) ∧ n ≤ 40 := by
  unfold light20B at h
  simp at h
  omega
theorem GiveH.mono {w : World} {N hops settles : Nat} {E : List Edg} {rk rk' : List Nat → Prop} {e : Ending} {w' : World} (h : GiveH w N hops settles E rk e w') (hr : ∀ r, rk r → rk' r) : GiveH w N hops settles E rk' e w' := by
  obtain ⟨gr, cr, As, cs, r, vs, h1, h2, h3, h4⟩ := h
  exact ⟨gr, cr, As, cs, r, vs, h1, h2, hr r h3, h4⟩
theorem coBuildAny (N : Nat) (A : Option Addr) (n c : Nat) (E : List Edg) (hops settles : Nat) (B : Option Addr) (m d : Nat) (l : List Int) (w : World) (h : Rd w A 3 n (esCells E)) (hok : rightF N E = 0) (hl : Rd w B 1 m (l.map (.int .i64))) (hor : coRB hops settles l = true) (hN : N ≤ 12) (hn : n ≤ 40) (hm : m = 0 ∨ m = N) :
    Calls Try.prog 36 #[.agg #[.int .i64 (N : Int), .slice A n c], .agg #[.int .i64 (hops : Int), .int .i64 (settles : Int), .slice B m d]] w (GiveH w N hops settles E (fun r => 0 < m → nvI r = l)) := by
  have hel := h.elen
  have hll : l.length = m := by simpa using hl.len
  by_cases h0 : m = 0
  · subst h0
    have e : l = [] := List.length_eq_zero_iff.1 hll
    subst e
    exact (coBuildOrd N A n c E hops settles B d w h hok hor hN (by omega)).mono fun e w' hg => hg.mono (fun r _ h => absurd h (by omega))
  · have hmN := hm.resolve_left h0
    subst hmN
    have hrk : rkB l = true := by unfold coRB at hor; simp at hor; exact hor.2
    obtain ⟨r, rfl, _, _⟩ := rk_nat hrk
    exact (coBuildRank m A n c E hops settles B d r w h hok (by rw [nvI_vals]; exact hl) hor hN (by omega)).mono fun e w' hg => hg.mono (fun r' h _ => by rw [h])
theorem built_ok {N hops settles : Nat} {E : List Edg} {r vs : List Nat} (hok : rightF N E = 0) (hN : N ≤ 12) (hE : E.length ≤ 40) (hi : InvR N r vs) : madeSB N E (nvI r) ((Ctr.goAll hops settles vs (ctrG N E)).S.map Sc.si) = true ∧ FullL N E r (Ctr.goAll hops settles vs (ctrG N E)).S ∧ (Ctr.goAll hops settles vs (ctrG N E)).S.length ≤ 2000 := by
  obtain ⟨h1, h2⟩ := goAll_small (hops := hops) (settles := settles) hok hN hE hi
  refine ⟨?_, built_fullL hok (right_ne hok) hi, h1⟩
  have hm := madeL_si hok hi.rl (built_made hok (right_ne hok) hi) h2
  unfold madeSB
  have e1 : (nvI r).length = N := by unfold nvI; rw [List.length_map]; exact hi.rl
  have e2 : rkB (nvI r) = true := rkB_nat hi.symm.nodup (by rw [hi.rl]; exact hi.symm.lt)
  rw [e1, e2, decide_eq_true rfl, Bool.true_and, Bool.true_and]
  exact decide_eq_true (fun i hi => hm i (by simpa using hi))
end Go.Proofs.Ytgplpgldhoelcaa

namespace Go.Proofs.Ytgplpgldhoelcaa
open Go Go.RowKit
attribute [local go_sem] Oper.semAt_some
def blt (N hops settles : Nat) (E : List Edg) (vs : List Nat) : List Sc := (Ctr.goAll hops settles vs (ctrG N E)).S
def GiveHB (w : World) (N hops settles : Nat) (E : List Edg) (rk : List Nat → Prop) (e : Ending) (w' : World) : Prop :=
  ∃ b r vs, e = .returned (.tuple #[.pointer (some ⟨b, 0, none⟩), .int .i64 0]) ∧ InvR N r vs ∧ rk r ∧ HiAt w' b N E r ((blt N hops settles E vs).map Sc.si) ∧ Grows w w'
set_option maxHeartbeats 2000000 in
theorem hiBuiltBad (N : Int) (A : Option Addr) (n c : Nat) (E : List Edg) (hops settles : Int) (B : Option Addr) (m d : Nat) (l : List Int) (w : World) (h : Rd w A 3 n (esCells E)) (hn : n ≤ 1000000) (hl : Rd w B 1 m (l.map (.int .i64))) (hm : m ≤ 1000000) (hbad : rightF N E ≠ 0 ∨ coRB hops settles l = false) :
    Calls Try.prog 12 #[.agg #[.int .i64 N, .slice A n c], .agg #[.int .i64 hops, .int .i64 settles, .slice B m d]] w fun e w' => e = .returned (.tuple #[.pointer none, .int .i64 1]) ∧ Grows w w' := by
  have CB := hide (fun (W : World) (g : Grows w W) => coBuildBad N A n c E hops settles B m d l W (h.grows g) hn (hl.grows g) hm hbad)
  clear h hl hbad
  go_enter Try.func12, Try.ntmps12
  go_wp2_with (go_at_call 36; refine (CB.out _ GG).mono ?_; rintro e w' ⟨rfl, hg⟩; obtain ⟨x1, rfl⟩ := hg.later; clear hg)
  exact bodyPost_ret (v := .tuple #[.pointer none, .int .i64 1]) (by simp (maxDischargeDepth := 6) [results, Try.results12, go_sem]) rfl ⟨rfl, GG⟩
set_option maxHeartbeats 2000000 in
theorem hiBuiltRange (N : Int) (A : Option Addr) (n c : Nat) (E : List Edg) (hops settles : Int) (B : Option Addr) (m d : Nat) (l : List Int) (w : World) (h : Rd w A 3 n (esCells E)) (hn : n ≤ 1000000) (hl : Rd w B 1 m (l.map (.int .i64))) (hm : m ≤ 1000000) (hok : rightF N E = 0) (hor : coRB hops settles l = true) (hm0 : 0 < m) (hmN : (m : Int) ≠ N) :
    Calls Try.prog 12 #[.agg #[.int .i64 N, .slice A n c], .agg #[.int .i64 hops, .int .i64 settles, .slice B m d]] w fun e w' => e = .returned (.tuple #[.pointer none, .int .i64 2]) ∧ Grows w w' := by
  have CB := hide (fun (W : World) (g : Grows w W) => coBuildRange N A n c E hops settles B m d l W (h.grows g) hn (hl.grows g) hm hok hor hm0 hmN)
  clear h hl hok hor hmN
  go_enter Try.func12, Try.ntmps12
  go_wp2_with (go_at_call 36; refine (CB.out _ GG).mono ?_; rintro e w' ⟨rfl, hg⟩; obtain ⟨x1, rfl⟩ := hg.later; clear hg)
  exact bodyPost_ret (v := .tuple #[.pointer none, .int .i64 2]) (by simp (maxDischargeDepth := 6) [results, Try.results12, go_sem]) rfl ⟨rfl, GG⟩
set_option maxHeartbeats 2000000 in
theorem hiBuilt (N : Nat) (A : Option Addr) (n c : Nat) (E : List Edg) (hops settles : Nat) (B : Option Addr) (m d : Nat) (l : List Int) (w : World) (h : Rd w A 3 n (esCells E)) (hok : rightF N E = 0) (hl : Rd w B 1 m (l.map (.int .i64))) (hor : coRB hops settles l = true) (hN : N ≤ 12) (hn : n ≤ 40) (hm : m = 0 ∨ m = N) :
    Calls Try.prog 12 #[.agg #[.int .i64 (N : Int), .slice A n c], .agg #[.int .i64 (hops : Int), .int .i64 (settles : Int), .slice B m d]] w (GiveHB w N hops settles E (fun r => 0 < m → nvI r = l)) := by
  have hel := h.elen
  have CB := hide (fun (W : World) (g : Grows w W) => coBuildAny N A n c E hops settles B m d l W (h.grows g) hok (hl.grows g) hor hN hn hm)
  have CN := hide (fun (r vs : List Nat) (gr cr : Nat) (As : Option Addr) (cs : Nat) (W : World) (g : Grows w W) (hi : InvR N r vs) (hrow : Rd W (some ⟨gr, 0, none⟩) 1 N (nv r)) (hrd : Rd W As 6 (blt N hops settles E vs).length (hss (blt N hops settles E vs))) (hcap : (blt N hops settles E vs).length ≤ cs) => by
    obtain ⟨b1, b2, b3⟩ := built_ok (hops := hops) (settles := settles) hok hN (by omega) hi
    have hlm : ((blt N hops settles E vs).map Sc.si).length = (blt N hops settles E vs).length := List.length_map ..
    have := hiNew N A c E (some ⟨gr, 0, none⟩) cr r As cs ((blt N hops settles E vs).map Sc.si) W (by rw [hel]; exact h.grows g) hok hrow (by rw [hlm, ← sis_of]; exact hrd) (by rw [hlm]; exact Nat.le_trans b3 (by omega)) (by rw [hlm]; exact hcap) b1
    rw [hlm, hel] at this
    exact this)
  unfold GiveH at CB
  unfold GiveHi at CN
  unfold GiveHB
  clear h hok hl hor hel
  have HBL : Hid (∀ vs, (Ctr.goAll hops settles vs (ctrG N E)).S = blt N hops settles E vs) := fun _ => rfl
  simp only [HBL.out] at CB
  go_enter Try.func12, Try.ntmps12
  go_upto_region 2 with (go_at_call 36; refine (CB.out _ GG).mono ?_; rintro e w' ⟨gr, cr, As, cs, r, vs, rfl, hI, hrk, hrow, hrd, hcap, hg⟩; obtain ⟨x1, rfl⟩ := hg.later; have HI := hide hI; have HRK := hide hrk; have HROW := hide hrow; have HRD := hide hrd; have HCAP := hide hcap; clear hI hrk hrow hrd hcap hg)
  have hgw : Grows w x1.now := GG
  have CN2 := hide (fun (W : World) (g : Grows x1.now W) => CN.out r vs gr cr As cs W (hgw.trans g) HI.out (HROW.out.rd.grows g) (HRD.out.grows g) HCAP.out)
  clear CN HROW HRD HCAP CB HBL
  generalize (blt N hops settles E vs).length = n2 at *
  go_wp2_with (go_at_call 40; refine (CN2.out _ GG).mono ?_; rintro e w' ⟨b, rfl, hh, hg⟩; obtain ⟨x2, rfl⟩ := hg.later; have HH := hide hh; clear hh hg)
  exact bodyPost_ret (v := .tuple #[.pointer (some ⟨b, 0, none⟩), .int .i64 0]) (by simp (maxDischargeDepth := 6) [results, Try.results12, go_sem]) rfl ⟨b, r, vs, rfl, HI.out, HRK.out, HH.out, GG⟩
end Go.Proofs.Ytgplpgldhoelcaa

namespace Go.Proofs.Ytgplpgldhoelcaa
open Go Go.RowKit
attribute [local go_sem] Oper.semAt_some
structure StV where
  hops : Int
  settles : Int
  B : Option Addr
  m : Nat
  d : Nat
  ph : Int
  N : Int
  A : Option Addr
  n : Nat
  c : Nat
  hp : Option Addr
  l1 : Nat
  l2 : Nat
  l3 : Nat
def StV.cells (s : StV) : List Value := [.int .i64 s.hops, .int .i64 s.settles, .slice s.B s.m s.d, .int .i64 s.ph, .int .i64 s.N, .slice s.A s.n s.c, .pointer s.hp, .int .i64 (s.l1 : Int), .int .i64 (s.l2 : Int), .int .i64 (s.l3 : Int)]
end Go.Proofs.Ytgplpgldhoelcaa

namespace Go.Proofs.Ytgplpgldhoelcaa
open Go Go.RowKit
attribute [local go_sem] Oper.semAt_some
end Go.Proofs.Ytgplpgldhoelcaa

namespace Go.Proofs.Ytgplpgldhoelcaa
open Go Go.RowKit
attribute [local go_sem] Oper.semAt_some
theorem field_hR (B A : Option Addr) (m d n c : Nat) (w : World) : (Instr.field 63 (.agg #[.slice B m d, .slice A n c]) 0).run Try.prog w = .ok (.slice B m d) w := by kernel_rfl
def GiveHO (w : World) (N : Nat) (r : List Nat) (S : List SI) (e : Ending) (w' : World) : Prop := ∃ B d A c, e = .returned (.agg #[.slice B N d, .slice A S.length c]) ∧ Own w' w.heap.size 3 1 B N d (nv r) ∧ Rd w' A 6 S.length (sis S) ∧ S.length ≤ c ∧ Grows w w'
set_option maxHeartbeats 2000000 in
theorem hiHierarchyO (b N : Nat) (E : List Edg) (r : List Nat) (S : List SI) (w : World) (h : HiAt w b N E r S) (hN : N ≤ 1000000) (hS : S.length ≤ 1000000) : Calls Try.prog 20 #[.pointer (some ⟨b, 0, none⟩)] w (GiveHO w N r S) := by
  obtain ⟨A, c, B, d, A2, c2, go, gi_, h1, _, h3, h4, _⟩ := h
  have CC := hide (fun (W : World) (g : Grows w W) => hiClone B N d (nvI r) A2 S.length c2 S W (by rw [← nvI_vals]; exact h3.grows g) hN (h4.grows g) hS)
  unfold GiveHC at CC
  unfold GiveHO
  clear h3 h4
  generalize S.length = n2 at *
  go_enter Try.func20, Try.ntmps20
  go_wp2_with (go_at_call 47; refine (CC.out _ GG).mono ?_; rintro e w' ⟨B1, d1, A1, c1, rfl, ho1, ho2, hg⟩; obtain ⟨x1, rfl⟩ := hg.later; have HO1 := hide ho1; have HO2 := hide ho2; clear ho1 ho2 hg)
  have hz1 := x1.size
  refine bodyPost_ret (v := .agg #[.slice B1 N d1, .slice A1 n2 c1]) (by simp (maxDischargeDepth := 6) [results, Try.results20, go_sem, *]) rfl ⟨B1, d1, A1, c1, rfl, ?_, ?_, HO2.out.capH, GG⟩
  · have := (((HO1.out).low (q := ⟨w.heap.size, 0, none⟩) (by simp) (.slice B1 N d1)).low (q := ⟨w.heap.size, 1, none⟩) (by simp) (.slice A1 n2 c1)).base (B' := w.heap.size) (by simp)
    rw [← nvI_vals] at this
    exact this
  · exact (((HO2.out).low (q := ⟨w.heap.size, 0, none⟩) (by simp) (.slice B1 N d1)).low (q := ⟨w.heap.size, 1, none⟩) (by simp) (.slice A1 n2 c1)).rd
end Go.Proofs.Ytgplpgldhoelcaa

