/- The law CanonRests: for every input it returns true, and each argument reads as before. No condition. -/
import Derived.Test.YthjcbboignmknaaQCanonRests00
import Derived.Test.YthjcbboignmknaaQCanonAll19
import Derived.Test.YthjcbboignmknaaQCanonRests01
import Derived.Test.YthjcbboignmknaaQCanonAll15
/- The law CanonRests, walked. (Begun: how far the end is from any node.) -/
namespace Go.Proofs.Ythjcbboignmknaa
open Go Go.RowKit
theorem Rd.piece {W : World} {b off n : Nat} {k : IntKind} {l : List Int} (h : Rd W (some ⟨b, off, none⟩) 1 n (l.map (.int k))) (a e : Nat) (he : a + e ≤ n) : Rd W (some ⟨b, off + a, none⟩) 1 e (((l.drop a).take e).map (.int k)) := by
  have hl := h.len
  simp at hl
  refine ⟨by simp; omega, fun h1 h2 => ?_⟩
  obtain ⟨b', off', e', hc⟩ := h.at_ (by omega)
  injection e' with e'
  injection e' with e1 e2
  subst e1 e2
  refine ⟨b, off + a, rfl, fun i u hu => ?_⟩
  have hi : i < e := by
    rcases Nat.lt_or_ge i e with h | h
    · exact h
    · rw [List.getElem?_eq_none (by simp; omega)] at hu; cases hu
  rw [List.map_take, List.getElem?_take, if_pos hi, List.map_drop, List.getElem?_drop] at hu
  have := hc (a + i) u hu
  rwa [← Nat.add_assoc] at this
theorem Own.lec {w : World} {B size n c : Nat} {e : TypeId} {A : Option Addr} {xs : List Value} (h : Own w B e size A n c xs) : n ≤ c := by
  rcases h.2 with ⟨_, h0⟩ | ⟨g, cap, cur, hv, _, _, h4, _⟩
  · omega
  · injection hv with _ _ h8
    omega
/-- A route, wherever it lies. -/
def RteQ (n f : Nat) (xs : List Value) : Pr := fun u w => ∃ A c, u = .agg #[.slice A n c, .int .u64 (f : Int)] ∧ Own w 0 3 1 A n c xs
/-- Where a slice begins behind its first element: an empty room keeps its place. -/
def offOf (c o : Nat) : Nat := if c = 1 then o else o + 1
theorem ite_addr (c g o : Nat) : (if c = 1 then some (⟨g, o, none⟩ : Addr) else some ⟨g, o + 1, none⟩) = some ⟨g, offOf c o, none⟩ := by unfold offOf; split <;> rfl
attribute [local go_sem] ite_addr
theorem djOneR {NN sN tN u : Nat} {E : List Edg} {W : List Nat} {ys : List (Nat × Nat)} (hx : PathOk NN sN tN E (freeO W) ys) (hu : u < NN) (A : Option Addr) (c : Nat) (Aw : Option Addr) (cw : Nat) (w : World) (h : Rd w A 3 E.length (esCells E)) (h4 : Rd w Aw 1 W.length (wv W)) (h0 : Rd w none 1 0 []) :
    Calls Try.prog 31 #[.agg #[.int .i64 (NN : Int), .slice A E.length c], .int .i64 (u : Int), .int .i64 (tN : Int), .agg #[.bool false, .slice none 0 0, .slice none 0 0, .slice Aw W.length cw, .int .u64 0]] w fun e w' =>
      e = .returned (if gn (outL NN ys) u < farV then .tuple #[.int .u64 (gn (outL NN ys) u : Int), .int .i64 0] else .tuple #[.int .u64 0, .int .i64 9]) ∧ Grows w w' := by
  obtain ⟨xs, hok, hd, htr, hnd, hin, hout⟩ := one_turned hx hu
  refine (djOne NN u tN A c E (freeO W) none none Aw 0 0 cw xs w h h0 h0 h4 hok hd htr hx.ok.node).mono ?_
  rintro e w' ⟨h1 | h1, hg⟩
  · obtain ⟨f, hf, rfl⟩ := h1
    obtain ⟨e1, e2⟩ := hin f hf
    rw [← e1, if_pos e2]
    exact ⟨rfl, hg⟩
  · obtain ⟨hn, rfl⟩ := h1
    rw [hout hn, if_neg (Nat.lt_irrefl _)]
    exact ⟨rfl, hg⟩
/-- Where there is no way, One says the same. -/
theorem djOneNoWay {E : List Edg} {W : List Nat} {N s t : Int} {l : List Nat} {f : Nat} {r : Int} (hp : IsPath E (freeO W) N s t l f r) (hr : r ≠ 0) (A : Option Addr) (c : Nat) (Aw : Option Addr) (cw : Nat) (w : World) (h : Rd w A 3 E.length (esCells E)) (h4 : Rd w Aw 1 W.length (wv W)) (h0 : Rd w none 1 0 []) (hn : E.length ≤ 1000000) (hn3 : W.length ≤ 1000000) :
    Calls Try.prog 31 #[.agg #[.int .i64 N, .slice A E.length c], .int .i64 s, .int .i64 t, .agg #[.bool false, .slice none 0 0, .slice none 0 0, .slice Aw W.length cw, .int .u64 0]] w fun e w' =>
      e = .returned (.tuple #[.int .u64 0, .int .i64 r]) ∧ Grows w w' := by
  cases hp with
  | bad hd => exact djOneNo N s t A E.length c E false (.slice none 0 0) (.slice none 0 0) Aw W.length cw 0 W w h h4 hn hn3 hd
  | noNode hd ht => exact djOneOut N s t A E.length c E false (.slice none 0 0) (.slice none 0 0) Aw W.length cw 0 W w h h4 hn hn3 hd ht
  | noPath NN sN tN xs hN hs ht hok hf =>
    subst hN hs ht
    have := djOneR hok hok.node A c Aw cw w h h4 h0
    rw [hf, if_neg (Nat.lt_irrefl _)] at this
    exact this
  | way => exact absurd rfl hr
theorem IsPath.zero {E : List Edg} {o : DOpt} {N s t : Int} {l : List Nat} {f : Nat} {r : Int} (hp : IsPath E o N s t l f r) (hr : r ≠ 0) : l = [] ∧ f = 0 := by
  cases hp with
  | bad => exact ⟨rfl, rfl⟩
  | noNode => exact ⟨rfl, rfl⟩
  | noPath => exact ⟨rfl, rfl⟩
  | way => exact absurd rfl hr
theorem IsPath.ways {E : List Edg} {o : DOpt} {N s t : Int} {l : List Nat} {f : Nat} {r : Int} (hp : IsPath E o N s t l f r) (hr : r = 0) : ∃ (NN sN tN : Nat) (ys : List (Nat × Nat)), N = NN ∧ s = sN ∧ t = tN ∧ PathOk NN sN tN E o ys ∧ f = gn (outL NN ys) sN ∧ gn (outL NN ys) sN < farV ∧ Near (srchOf NN E (backO o)) (outL NN ys) tN ∧ Fol (srchOf NN E (backO o)) (outL NN ys) tN sN l := by
  cases hp with
  | bad hd => exact absurd hr hd
  | noNode => cases hr
  | noPath => cases hr
  | way NN sN tN xs l hN hs ht hok hf hn hl => exact ⟨NN, sN, tN, xs, hN, hs, ht, hok, rfl, hf, hn, hl⟩
set_option maxRecDepth 40000 in
set_option maxHeartbeats 16000000 in
theorem canonRestsW (N : Int) (A : Option Addr) (n c : Nat) (E : List Edg) (s t : Int) (B : Option Addr) (m d : Nat) (z : List Int) (w : World) (_ : I64 N) (_ : n ≤ c) (h : Rd w A 3 n (esCells E)) (_ : ∀ k, k < n → edgOk (ge E k)) (_ : I64 s) (_ : I64 t) (_ : m ≤ d) (h' : Rd w B 1 m (z.map (.int .u64))) (hz : ∀ x ∈ z, (Lit.int .u64 x).wf = true) :
    Calls Try.prog 6 #[.agg #[.int .i64 N, .slice A n c], .int .i64 s, .int .i64 t, .slice B m d] w fun e w' => e = .returned (.bool true) ∧ Grows w w' := by
  rw [wv_of hz] at h'
  generalize z.map Int.toNat = W at h'
  clear hz
  have e3 : W.length = m := h'.wlen
  have e4 : E.length = n := h.elen
  subst e3 e4
  have CL := fun (W1 : World) => lLight14 N A E.length c false none none B 0 0 0 0 W.length d 0 W1
  unfold oVal at CL
  cases hq : light14 N E.length 0 0 W.length with
  | false =>
    rw [hq] at CL
    have H1 := hide CL
    clear CL hq h h'
    go_enter Try.func6, Try.ntmps6
    go_wp2_with (first | (go_at_call 22; refine (H1.out _).mono ?_; rintro e w' ⟨rfl, hg⟩; (first | obtain ⟨x, rfl⟩ := Grows.later2 hg | obtain ⟨x, rfl⟩ := Grows.later hg); clear hg) | (go_at_call 23; refine (alive15 _).mono ?_; rintro e w' ⟨rfl, hg⟩; (first | obtain ⟨x, rfl⟩ := Grows.later2 hg | obtain ⟨x, rfl⟩ := Grows.later hg); clear hg))
    go_ret
    exact ⟨rfl, (by repeat (first | exact Grows.refl _ | refine Grows.now ?_ _ | refine Grows.new ?_ _ | refine Grows.drewN ?_ _ | refine Grows.drew ?_ | assumption | (refine Grows.set ?_ (by first | omega | (simp; done) | (simp; omega)) _)))⟩
  | true =>
  rw [hq] at CL
  have H1 := hide CL
  have hsz : E.length ≤ 1000000 ∧ W.length ≤ 1000000 := by
    unfold light14 lightG at hq
    simp at hq
    omega
  obtain ⟨hn, hm⟩ := hsz
  clear CL hq
  have nilR : ∀ W1 : World, Rd W1 none 1 0 [] := fun W1 => ⟨rfl, fun h => absurd h (by omega)⟩
  obtain ⟨l, f, r, hp⟩ := isPath_any E (freeO W) N s t (by show 0 ≤ _; omega) (by show 0 ≤ _; omega)
  have K1 := hide (fun (W1 : World) (g : Grows w W1) => show Calls Try.prog 30 #[.agg #[.int .i64 N, .slice A E.length c], .int .i64 s, .int .i64 t, .agg #[.bool false, .slice none 0 0, .slice none 0 0, .slice B W.length d, .int .u64 0]] W1 fun e w' =>
      ∃ A' c', e = .returned (.tuple #[.agg #[.slice A' l.length c', .int .u64 (f : Int)], .int .i64 r]) ∧ Own w' W1.heap.size 3 1 A' l.length c' (nv l) ∧ Grows W1 w' from
    caPath N s t A c E (freeO W) none none B 0 0 d l f r W1 (h.grows g) (nilR _) (nilR _) (h'.grows g) hn hm hp)
  by_cases hr : r = 0
  · obtain ⟨NN, sN, tN, ys, hN, hs, ht, hok, hff, hfar, hnear, hfol⟩ : ∃ (NN sN tN : Nat) (ys : List (Nat × Nat)), N = NN ∧ s = sN ∧ t = tN ∧ PathOk NN sN tN E (freeO W) ys ∧ f = gn (outL NN ys) sN ∧ gn (outL NN ys) sN < farV ∧ Near (srchOf NN E (backO (freeO W))) (outL NN ys) tN ∧ Fol (srchOf NN E (backO (freeO W))) (outL NN ys) tN sN l := hp.ways hr
    subst hN hs ht
    have hin : InN NN E := hok.ok.srch.ends
    have hsm := hfol.short hnear hok.node
    have hsm2 : l.length < NN := hsm
    have hNb := hok.bound.2.1
    have K2 := hide (fun (W1 : World) (g : Grows w W1) => show Calls Try.prog 31 #[.agg #[.int .i64 (NN : Int), .slice A E.length c], .int .i64 (sN : Int), .int .i64 (tN : Int), .agg #[.bool false, .slice none 0 0, .slice none 0 0, .slice B W.length d, .int .u64 0]] W1 fun e w' => e = .returned (.tuple #[.int .u64 (f : Int), .int .i64 0]) ∧ Grows W1 w' from by
      have := djOneR hok hok.node A c B d W1 (h.grows g) (h'.grows g) (nilR _)
      rw [if_pos hfar, ← hff] at this
      exact this)
    have e9 : nv l = (ciL l).map (.int .i64) := by unfold nv ciL; rw [List.map_map]; rfl
    have hnd : gi (nodesL NN E (sN : Int) (ciL l)) (ciL l).length = (tN : Int) := by
      have e1 : nodesL NN E (sN : Int) (ciL l) = ciL (ndsN E sN l) := hfol.nodesL (N := NN) hin hok.ok.right hok.node
      have e2 : (ndsN E sN l)[l.length]'(by simp [ndsN]) = tN := hfol.last
      rw [e1, ciL_len, ciL_gi (by simp [ndsN]), e2]
    have K3 := hide (fun (W1 : World) (g : Grows w W1) (A7 : Option Addr) (c7 : Nat) (hr : Rd W1 A7 1 l.length (nv l)) => show Calls Try.prog 32 #[.agg #[.int .i64 (NN : Int), .slice A E.length c], .int .i64 (sN : Int), .int .i64 (tN : Int), .slice A7 l.length c7] W1 fun e w' => e = .returned (.bool true) ∧ Grows W1 w' from by
      have := r8Is NN A E.length c E sN tN A7 l.length c7 (ciL l) W1 (h.grows g) hn (by rw [← e9]; exact hr) (by omega)
      rw [show isB NN E (sN : Int) (ciL l) = true from hfol.isB (N := NN) hin hok.ok.right hok.node, hnd, decide_eq_true rfl] at this
      exact this)
    have K4 := hide (fun (W1 : World) (g : Grows w W1) (A7 : Option Addr) (c7 : Nat) (hr : Rd W1 A7 1 l.length (nv l)) => show Calls Try.prog 33 #[.agg #[.int .i64 (NN : Int), .slice A E.length c], .int .i64 (sN : Int), .slice A7 l.length c7] W1 fun e w' => e = .returned (.bool true) ∧ Grows W1 w' from by
      have := r8Simple NN A E.length c E sN A7 l.length c7 (ciL l) W1 (h.grows g) hn (by rw [← e9]; exact hr) (by omega)
      rw [show simB NN E (sN : Int) (ciL l) = true from hfol.simple (N := NN) hnear hin hok.ok.right hok.node hok.node] at this
      exact this)
    cases l with
    | nil =>
      have hst : sN = tN := by
        cases hfol with
        | here => rfl
      have hln : ([] : List Nat).length = 0 := rfl
      rw [hln] at K1 K3 K4
      subst hst hr
      clear h h' hp nilR hok hff hfar hnear hfol hin hsm hsm2 hNb e9 hnd hln
      go_enter Try.func6, Try.ntmps6
      go_wp2_with (go_at_call 22; refine (H1.out _).mono ?_; rintro e w' ⟨rfl, hg⟩; obtain ⟨x1, rfl⟩ := hg.later; clear hg)
      refine (K1.out _ (by repeat (first | exact Grows.refl _ | refine Grows.now ?_ _ | refine Grows.new ?_ _ | refine Grows.drewN ?_ _ | refine Grows.drew ?_ | assumption | (refine Grows.set ?_ (by first | omega | (simp; done) | (simp; omega)) _)))).mono ?_; rintro e w' ⟨A7, c7, rfl, ho, hg⟩
      have HO := hide ho.rd
      obtain ⟨x3, rfl⟩ := Grows.later2 hg; clear hg ho
      go_wp2_with fail
      refine (K2.out _ (by repeat (first | exact Grows.refl _ | refine Grows.now ?_ _ | refine Grows.new ?_ _ | refine Grows.drewN ?_ _ | refine Grows.drew ?_ | assumption | (refine Grows.set ?_ (by first | omega | (simp; done) | (simp; omega)) _)))).mono ?_; rintro e w' ⟨rfl, hg⟩; obtain ⟨x4, hx4⟩ : ∃ x4 : Later _, w' = x4.now := hg.later; subst hx4; clear hg
      go_wp2_with fail
      refine (K3.out _ (by repeat (first | exact Grows.refl _ | refine Grows.now ?_ _ | refine Grows.new ?_ _ | refine Grows.drewN ?_ _ | refine Grows.drew ?_ | assumption | (refine Grows.set ?_ (by first | omega | (simp; done) | (simp; omega)) _))) A7 c7 (HO.out.grows (show Grows x3.now x4.now from (by repeat (first | exact Grows.refl _ | refine Grows.now ?_ _ | refine Grows.new ?_ _ | refine Grows.drewN ?_ _ | refine Grows.drew ?_ | assumption | (refine Grows.set ?_ (by first | omega | (simp; done) | (simp; omega)) _)))))).mono ?_; rintro e w' ⟨rfl, hg⟩; obtain ⟨x5, hx5⟩ : ∃ x5 : Later x4.now, w' = x5.now := hg.later; subst hx5; clear hg
      go_wp2_with fail
      refine (K4.out _ (by repeat (first | exact Grows.refl _ | refine Grows.now ?_ _ | refine Grows.new ?_ _ | refine Grows.drewN ?_ _ | refine Grows.drew ?_ | assumption | (refine Grows.set ?_ (by first | omega | (simp; done) | (simp; omega)) _))) A7 c7 (HO.out.grows (show Grows x3.now x5.now from (by repeat (first | exact Grows.refl _ | refine Grows.now ?_ _ | refine Grows.new ?_ _ | refine Grows.drewN ?_ _ | refine Grows.drew ?_ | assumption | (refine Grows.set ?_ (by first | omega | (simp; done) | (simp; omega)) _)))))).mono ?_; rintro e w' ⟨rfl, hg⟩; obtain ⟨x6, hx6⟩ : ∃ x6 : Later x5.now, w' = x6.now := hg.later; subst hx6; clear hg
      go_wp2_with fail
      refine (alive15 _).mono ?_; rintro e w' ⟨rfl, hg⟩; obtain ⟨x7, rfl⟩ := hg.later; clear hg
      go_wp2_with fail
      go_ret
      exact ⟨rfl, (by repeat (first | exact Grows.refl _ | refine Grows.now ?_ _ | refine Grows.new ?_ _ | refine Grows.drewN ?_ _ | refine Grows.drew ?_ | assumption | (refine Grows.set ?_ (by first | omega | (simp; done) | (simp; omega)) _)))⟩
    | cons i l =>
      obtain ⟨i0, l', hre, hi, hfi, hnb, hlt, hfol2⟩ : ∃ i0 l', (i :: l) = i0 :: l' ∧ i0 < E.length ∧ fN E i0 = sN ∧ nearB (srchOf NN E (backO (freeO W))) (outL NN ys) sN i0 = true ∧ (∀ j, j < i0 → fN E j = sN → nearB (srchOf NN E (backO (freeO W))) (outL NN ys) sN j = false) ∧ Fol (srchOf NN E (backO (freeO W))) (outL NN ys) tN (Go.Proofs.Ythjcbboignmknaa.tN E i0) l' := by
        cases hfol with
        | step h1 h2 h3 h4 h5 h6 => exact ⟨_, _, rfl, h2, h3, h4, h5, h6⟩
      injection hre with e1 e2
      subst e1 e2
      have hu : Go.Proofs.Ythjcbboignmknaa.tN E i < NN := (hin.t i hi).1
      have hyes := nearB_yes hnb
      have hok2 : PathOk NN (Go.Proofs.Ythjcbboignmknaa.tN E i) tN E (freeO W) ys := ⟨hok.ok, hok.dc, dc_node hok.dcs ⟨by omega, by omega⟩, hu, hok.tr, hok.lt, hok.ref, hok.wb, hok.far⟩
      have hp2 : IsPath E (freeO W) NN (Go.Proofs.Ythjcbboignmknaa.tN E i : Nat) tN l (gn (outL NN ys) (Go.Proofs.Ythjcbboignmknaa.tN E i)) 0 := .way NN _ tN ys l rfl rfl rfl hok2 hyes.1 hnear hfol2
      have hsum : gn (outL NN ys) (Go.Proofs.Ythjcbboignmknaa.tN E i) + gn (wtF NN E W) i = f := by rw [hff]; exact hyes.2.1
      have hless : ∀ k, k < i → fN E k = sN → gn (outL NN ys) (Go.Proofs.Ythjcbboignmknaa.tN E k) < farV → f < gn (outL NN ys) (Go.Proofs.Ythjcbboignmknaa.tN E k) + gn (wtF NN E W) k := fun k hk hfk hfar2 => by
        have h1 := hlt k hk hfk
        have hkE : k < E.length := by omega
        have h2 : gn (outL NN ys) (fN E k) ≤ gn (outL NN ys) (Go.Proofs.Ythjcbboignmknaa.tN E k) + gn (wtF NN E W) k := hnear.edge k hkE (by simp [cntE, srchOf, freeO, backO]) hfar2
        rw [hfk, ← hff] at h2
        rcases Nat.lt_or_ge f (gn (outL NN ys) (Go.Proofs.Ythjcbboignmknaa.tN E k) + gn (wtF NN E W) k) with h3 | h3
        · exact h3
        · have h4 : gn (outL NN ys) (Go.Proofs.Ythjcbboignmknaa.tN E k) + gn (wtF NN E W) k = gn (outL NN ys) sN := by omega
          have h5 : nearB (srchOf NN E (backO (freeO W))) (outL NN ys) sN k = true := by
            show (decide (gn (outL NN ys) (Go.Proofs.Ythjcbboignmknaa.tN E k) < farV) && decide (gn (outL NN ys) (Go.Proofs.Ythjcbboignmknaa.tN E k) + gn (wtF NN E W) k = gn (outL NN ys) sN) && !decide ((k : Int) ∈ ([] : List Int))) = true
            rw [decide_eq_true hfar2, decide_eq_true h4]
            simp
          rw [h5] at h1
          cases h1
      have hxl : (wtF NN E W).length = E.length := hok.ok.wlen
      have K5 := hide (fun (W1 : World) (g1 : Grows w W1) => show Calls Try.prog 34 #[.agg #[.int .i64 (NN : Int), .slice A E.length c], .agg #[.bool false, .slice none 0 0, .slice none 0 0, .slice B W.length d, .int .u64 0]] W1 fun e w' => ∃ A9 c9, e = .returned (.slice A9 E.length c9) ∧ Rd w' A9 1 E.length (wv (wtF NN E W)) ∧ Grows W1 w' from
        (djWeights NN A E.length c E false (.slice none 0 0) (.slice none 0 0) B W.length d 0 W W1 (h.grows g1) (h'.grows g1) hn hm).mono (fun e w' h => by
          obtain ⟨A9, c9, rfl, ho, hg⟩ := h
          have ho := ho.rd
          rw [hxl] at ho ⊢
          exact ⟨A9, c9, rfl, ho, hg⟩))
      have K6 := hide (fun (W1 : World) (g : Grows w W1) => show Calls Try.prog 30 #[.agg #[.int .i64 (NN : Int), .slice A E.length c], .int .i64 (Go.Proofs.Ythjcbboignmknaa.tN E i : Int), .int .i64 (tN : Int), .agg #[.bool false, .slice none 0 0, .slice none 0 0, .slice B W.length d, .int .u64 0]] W1 fun e w' =>
          ∃ A' c', e = .returned (.tuple #[.agg #[.slice A' l.length c', .int .u64 (gn (outL NN ys) (Go.Proofs.Ythjcbboignmknaa.tN E i) : Int)], .int .i64 0]) ∧ Own w' W1.heap.size 3 1 A' l.length c' (nv l) ∧ Grows W1 w' from
        caPath NN (Go.Proofs.Ythjcbboignmknaa.tN E i : Nat) tN A c E (freeO W) none none B 0 0 d l _ 0 W1 (h.grows g) (nilR _) (nilR _) (h'.grows g) hn hm hp2)
      have K7 := hide (fun (k : Nat) (hk : k < E.length) (W1 : World) (g : Grows w W1) => djOneR (u := Go.Proofs.Ythjcbboignmknaa.tN E k) hok (hin.t k hk).1 A c B d W1 (h.grows g) (h'.grows g) (nilR _))
      have hln : (i :: l).length = l.length + 1 := rfl
      have HNV := hide (show nv (i :: l) = Value.int .i64 (i : Int) :: nv l from rfl)
      rw [hln] at K1 K3 K4
      subst hr
      have HIN := hide hin
      have HLESS := hide hless
      have HSUM := hide hsum
      have HRD := hide h
      have HWB := hide (show ∀ k, k < E.length → gn (wtF NN E W) k ≤ 17592186044416 from fun k hk => (hok.wb k hk).2)
      have HFB := hide (show f < 4611686018427387904 by have := hfar; unfold farV at this; omega)
      have hbl : ((l.length : Int) + 1 == 0) = false := beq_eq_false_iff_ne.2 (by omega)
      clear h h' hp nilR hff hfar hnear hfol hin e9 hnd hln hlt hnb hyes hok2 hp2 hless hsum hfol2 hok
      go_enter Try.func6, Try.ntmps6
      go_wp2_with fail
      refine (H1.out _).mono ?_; rintro e W0 ⟨rfl, hg⟩
      have a4 : Arr W0 w.heap.size 24 [.int .i64 (NN : Int), .slice A E.length c] := Arr.grow ⟨by simp [heap_push, Array.getElem_push, Array.getElem?_push, eq_add2]⟩ hg
      have a9 : Arr W0 (w.heap.size + 1) 39 [.bool false, .slice none 0 0, .slice none 0 0, .slice B W.length d, .int .u64 0] := Arr.grow ⟨by simp [heap_push, Array.getElem_push, Array.getElem?_push, eq_add2]⟩ hg
      have hgw : Grows w W0 := Grows.trans (by exact (by repeat (first | exact Grows.refl _ | refine Grows.now ?_ _ | refine Grows.new ?_ _ | refine Grows.drewN ?_ _ | refine Grows.drew ?_ | assumption | (refine Grows.set ?_ (by first | omega | (simp; done) | (simp; omega)) _)))) hg
      obtain ⟨b4, e4⟩ : ∃ b, w.heap.size = b := ⟨_, rfl⟩
      rw [e4] at a4 a9 ⊢
      clear e4 hg
      generalize b4 + 1 = b9 at *
      obtain ⟨y, rfl⟩ := hgw.later
      clear hgw
      go_wp2_with fail
      refine (K1.out _ (by repeat (first | exact Grows.refl _ | refine Grows.now ?_ _ | refine Grows.new ?_ _ | refine Grows.drewN ?_ _ | refine Grows.drew ?_ | assumption | (refine Grows.set ?_ (by first | omega | (simp; done) | (simp; omega)) _)))).mono ?_; rintro e W1 ⟨A7, c7, rfl, ho, hg⟩
      have HCAP := hide ho.lec
      have HO := hide ho.rd
      replace a4 := a4.grow hg
      replace a9 := a9.grow hg
      have g1 := y.grows.trans hg
      clear ho hg
      obtain ⟨y1, rfl⟩ := g1.later
      clear g1
      go_wp2_with fail
      refine (K2.out _ (by repeat (first | exact Grows.refl _ | refine Grows.now ?_ _ | refine Grows.new ?_ _ | refine Grows.drewN ?_ _ | refine Grows.drew ?_ | assumption | (refine Grows.set ?_ (by first | omega | (simp; done) | (simp; omega)) _)))).mono ?_; rintro e W2 ⟨rfl, hg⟩
      have gn := ((Grows.refl y1.now).new (.cells #[.slice A7 (l.length + 1) c7, .int .u64 (f : Int)] 53)).trans hg
      have a10 : Arr W2 y1.now.heap.size 53 [.slice A7 (l.length + 1) c7, .int .u64 (f : Int)] := (Arr.make _ _ _).grow hg
      replace a4 := a4.grow gn
      replace a9 := a9.grow gn
      have HO := hide (HO.out.grows gn)
      have g2 := y1.grows.trans gn
      clear hg gn
      generalize y1.now.heap.size = b10 at *
      obtain ⟨y2, rfl⟩ := g2.later
      clear g2
      go_wp2_with fail
      refine (K3.out _ (by repeat (first | exact Grows.refl _ | refine Grows.now ?_ _ | refine Grows.new ?_ _ | refine Grows.drewN ?_ _ | refine Grows.drew ?_ | assumption | (refine Grows.set ?_ (by first | omega | (simp; done) | (simp; omega)) _))) A7 c7 HO.out).mono ?_; rintro e w' ⟨rfl, hg⟩; obtain ⟨x5, hx5⟩ : ∃ x5 : Later y2.now, w' = x5.now := hg.later; subst hx5; clear hg
      go_wp2_with fail
      refine (K4.out _ (by repeat (first | exact Grows.refl _ | refine Grows.now ?_ _ | refine Grows.new ?_ _ | refine Grows.drewN ?_ _ | refine Grows.drew ?_ | assumption | (refine Grows.set ?_ (by first | omega | (simp; done) | (simp; omega)) _))) A7 c7 (HO.out.grows (show Grows y2.now x5.now from (by repeat (first | exact Grows.refl _ | refine Grows.now ?_ _ | refine Grows.new ?_ _ | refine Grows.drewN ?_ _ | refine Grows.drew ?_ | assumption | (refine Grows.set ?_ (by first | omega | (simp; done) | (simp; omega)) _)))))).mono ?_; rintro e w' ⟨rfl, hg⟩; obtain ⟨x6, hx6⟩ : ∃ x6 : Later y2.now, w' = x6.now := (x5.grows.trans hg).later; subst hx6; clear hg
      go_wp2_with fail
      refine (K5.out _ (by repeat (first | exact Grows.refl _ | refine Grows.now ?_ _ | refine Grows.new ?_ _ | refine Grows.drewN ?_ _ | refine Grows.drew ?_ | assumption | (refine Grows.set ?_ (by first | omega | (simp; done) | (simp; omega)) _)))).mono ?_; rintro e w' ⟨A9, c9, rfl, hx, hg⟩
      have g3 := x6.grows.trans hg
      have HO := hide (HO.out.grows g3)
      replace a4 := a4.grow g3
      replace a9 := a9.grow g3
      replace a10 := a10.grow g3
      have HX9 := hide hx
      have g4 := y2.grows.trans g3
      clear hg hx g3
      obtain ⟨y3, rfl⟩ := g4.later
      clear g4 K1 K2 K3 K4 K5 H1
      obtain ⟨g0, o0, rfl, hc⟩ := HO.out.at_ (by omega)
      have k0 : Holds y3.now ⟨g0, o0, none⟩ (.int .i64 (i : Int)) := ⟨hc 0 _ rfl⟩
      obtain ⟨bE, oE, rfl, hcE⟩ := HRD.out.edgesH (by omega)
      obtain ⟨z1, z2, z3⟩ := hcE i hi
      rw [(HIN.out.t i hi).2] at z2
      have HCE := hide hcE
      clear hc hcE
      go_wp2_with fail
      go_upto_region 16 with fail
      refine wp_region_box (bxS 13 14 11 16 110 53 [.slice none 0 0, .int .u64 0]) (by kernel_rfl) (by kernel_rfl) (by kernel_rfl) (fun oa os h1 h2 => by injection h1 with h1; injection h2 with h2; subst h1 h2; exact bxS_runs (by kernel_rfl) rfl rfl) ?_
      (repeat' (refine gLexX_val0 rfl (by kernel_rfl) (by kernel_rfl) (fun K hK => ?_); go_simp; (try (simp only [↓IntWalk.iteOmega]; try go_simp)); (try simp (disch := omega) only [IntWalk.i64_in]); (try simp (disch := omega) only [IntWalk.u64_in]); first | (refine hK _ ?_; clear hK K) | (apply Exists.intro; refine ⟨fun x => ?_, hK _ ?_⟩; (first | fail); clear hK K)))
      refine gLexX_prop rfl (by kernel_rfl) (by kernel_rfl) rfl (by simp) (PairQ (RteQ l.length (gn (outL NN ys) (Go.Proofs.Ythjcbboignmknaa.tN E i)) (nv l)) (.int .i64 0)) (fun x S hS => ?_) ?_
      · go_simp
        refine (K6.out _ (by repeat (first | exact Grows.refl _ | refine Grows.now ?_ _ | refine Grows.new ?_ _ | refine Grows.drewN ?_ _ | refine Grows.drew ?_ | assumption | (refine Grows.set ?_ (by first | omega | (simp; done) | (simp; omega)) _)))).mono ?_
        rintro e w' ⟨A8, c8, rfl, ho, hg⟩
        exact ⟨_, rfl, hg, fun w'' ht => ⟨_, rfl, A8, c8, rfl, (ho.noBox (fun k hk => (hS k hk).2) ht).base (Nat.zero_le _)⟩⟩
      refine gLexX_pair (by kernel_rfl) ⟨rfl, rfl, rfl, rfl, rfl, rfl⟩ ⟨rfl, rfl, rfl, rfl, rfl⟩ ⟨rfl, rfl, rfl, rfl, rfl⟩ (by decide) rfl (by decide) rfl (by simp) (by kernel_rfl) (by kernel_rfl) (by kernel_rfl) (by kernel_rfl) (by kernel_rfl) (by kernel_rfl) ?good ?_
      case good =>
        rintro v w1 ⟨A8, c8, rfl, _⟩
        exact ⟨_, rfl, rfl, by simp [Value.oneCell']⟩
      refine gLexX_end (fun v S b16 hb16 => ?_)
      refine AtX.pop rfl (by simp) (fun z1 hz1 => ?_)
      obtain rfl : z1 = _ := hz1
      refine AtX.pop rfl (by simp [Act.put]) (fun z2 _ => ?_)
      refine AtX.pop rfl (by simp [Act.put]) (fun z3 hz3 => ?_)
      obtain rfl : z3 = _ := hz3
      refine AtX.pop rfl (by simp [Act.put]) (fun z4 hz4 => ?_)
      obtain ⟨A8, c8, rfl, ho⟩ := hz4
      refine AtX.pop rfl (by simp [Act.put]) (fun z5 _ => ?_)
      refine AtX.pop rfl (by simp [Act.put]) (fun z6 _ => ?_)
      refine AtX.base (by simp [Act.put, bxS]; rfl) (by simp [Act.put, bxS]; rfl) (fun e9 ha16 => ?_)
      subst e9
      simp only [Act.put, List.setIfInBounds_toArray, List.set_cons_zero, List.set_cons_succ]
      have a16 : Arr v.now b16 53 [.slice A8 l.length c8, .int .u64 (gn (outL NN ys) (Go.Proofs.Ythjcbboignmknaa.tN E i) : Int)] := ha16
      have HR8 := hide ho.rd
      clear ha16 ho hb16
      · skip
        have HO2 := HO.out.grows v.grows
        have e9 : ∀ l : List Nat, nv l = (ciL l).map (.int .i64) := fun l => by unfold nv ciL; rw [List.map_map]; rfl
        have hR9 : Rd v.now (some ⟨g0, o0 + 1, none⟩) 1 l.length (nv l) := by
          have e5 : nv (i :: l) = (ciL (i :: l)).map (.int .i64) := e9 _
          have := HO2
          rw [e5] at this
          have := Rd.piece this 1 l.length (by omega)
          rw [show ((ciL (i :: l)).drop 1).take l.length = ciL l from List.take_of_length_le (by simp [ciL])] at this
          rw [e9]
          exact this
        have hll : l.length ≤ 100000 := by
          have h9 := hsm2
          rw [List.length_cons] at h9
          omega
        have hR10 : Rd v.now (some ⟨g0, offOf c7 o0, none⟩) 1 l.length (nv l) := by
          rw [← ite_addr]
          by_cases hc7 : c7 = 1
          · have hl0 : l.length = 0 := by have := HCAP.out; omega
            refine ⟨by simp [nv], fun h1 _ => absurd h1 (by omega)⟩
          · rw [if_neg hc7]; exact hR9
        have KS := hide (fun (W1 : World) (g : Grows v.now W1) => show Calls Try.prog 35 #[.slice A8 l.length c8, .slice (some ⟨g0, offOf c7 o0, none⟩) l.length (c7 - 1)] W1 fun e w' => e = .returned (.bool true) ∧ Grows W1 w' from by
          have h1 := HR8.out.grows g
          have h2 := hR10.grows g
          rw [e9] at h1 h2
          have := r1Same A8 l.length c8 (ciL l) _ l.length (c7 - 1) (ciL l) W1 h1 (by omega) h2 (by omega)
          rw [decide_eq_true rfl] at this
          exact this)
        obtain ⟨_, bx, ox, rfl, hcx⟩ := (HX9.out.grows v.grows).wordsH (by omega)
        have kx := hcx i hi
        have HKX := hide hcx
        have hs9 : ((gn (outL NN ys) (Go.Proofs.Ythjcbboignmknaa.tN E i) : Int) + (gn (wtF NN E W) i : Int)) = (f : Int) := by have := HSUM.out; omega
        have hfb : f < 4611686018427387904 := HFB.out
        have hne9 : ((f : Int) != (f : Int)) = false := by simp
        replace a4 := a4.grow v.grows
        replace a9 := a9.grow v.grows
        replace a10 := a10.grow v.grows
        clear HO HO2 hR9 hR10 e9 HR8 hcx HX9 hll
        go_wp2_with fail
        ((first | refine wp_region_gen (by kernel_rfl) (by kernel_rfl) ?_); (repeat' (first | (refine gLex_val0 rfl (by kernel_rfl) (fun K hK => ?_); (go_simp; (try (simp only [↓IntWalk.iteOmega]; try go_simp)); (try simp (disch := omega) only [IntWalk.i64_in]); (try simp (disch := omega) only [IntWalk.u64_in]); first | (refine hK _ ?_; clear hK K) | (apply Exists.intro; refine ⟨fun x => ?_, hK _ ?_⟩; (first | (go_at_call 35; exact KS.out _ (by repeat (first | exact Grows.refl _ | refine Grows.now ?_ _ | refine Grows.new ?_ _ | refine Grows.drewN ?_ _ | refine Grows.drew ?_ | assumption | (refine Grows.set ?_ (by first | omega | (simp; done) | (simp; omega)) _))))); clear hK K))) | (refine gLex_undef rfl rfl rfl (by kernel_rfl) (fun K hK => ?_); go_simp; refine hK _ ?_; clear hK K) | (refine gLex_ask rfl rfl rfl ?_; first | (apply gAsk_yes; kernel_rfl; intro K hK; (go_simp; (try (simp only [↓IntWalk.iteOmega]; try go_simp)); (try simp (disch := omega) only [IntWalk.i64_in]); (try simp (disch := omega) only [IntWalk.u64_in]); first | (refine hK _ ?_; clear hK K) | (apply Exists.intro; refine ⟨fun x => ?_, hK _ ?_⟩; (first | (go_at_call 35; exact KS.out _ (by repeat (first | exact Grows.refl _ | refine Grows.now ?_ _ | refine Grows.new ?_ _ | refine Grows.drewN ?_ _ | refine Grows.drew ?_ | assumption | (refine Grows.set ?_ (by first | omega | (simp; done) | (simp; omega)) _))))); clear hK K))) | ((first | apply gAsk_no1 | apply gAsk_no2); kernel_rfl; intro K hK; simp [go_sem]; refine hK _ ?_; clear hK K) | (apply gAsk_part; kernel_rfl; all_goals (intro h K hK; (try simp only [Bool.not_true] at h); (try simp only [Bool.not_false] at h); (try simp only [decide_eq_true_eq] at h); (try simp only [decide_eq_false_iff_not] at h); first | (exfalso; first | contradiction | omega) | (go_simp; (try (simp only [↓IntWalk.iteOmega]; try go_simp)); (try simp (disch := omega) only [IntWalk.i64_in]); (try simp (disch := omega) only [IntWalk.u64_in]); first | (refine hK _ ?_; clear hK K) | (apply Exists.intro; refine ⟨fun x => ?_, hK _ ?_⟩; (first | (go_at_call 35; exact KS.out _ (by repeat (first | exact Grows.refl _ | refine Grows.now ?_ _ | refine Grows.new ?_ _ | refine Grows.drewN ?_ _ | refine Grows.drew ?_ | assumption | (refine Grows.set ?_ (by first | omega | (simp; done) | (simp; omega)) _))))); clear hK K))))))); all_goals ((apply gLex_end); intro x7))
        all_goals go_wp2_with fail
        all_goals (go_loopw [18] (fun s wr => ∃ k : Nat, k ≤ i ∧ s = .int .i64 (k : Int) ∧ ∃ x : Later v.now, wr = x.now) (fun s _ => i - (Go.RowKit.intOf s).toNat))
        case atStart => exact ⟨0, by omega, by go_num, x7, rfl⟩
        all_goals (case round =>
          obtain ⟨k, hk, rfl, x8, rfl⟩ := hrel
          by_cases hlt : k < i
          · have hkE : k < E.length := by omega
            obtain ⟨q1, q2, _⟩ := HCE.out k hkE
            rw [(HIN.out.f k hkE).2] at q1
            rw [(HIN.out.t k hkE).2] at q2
            have kk := HKX.out k hkE
            have hwb := HWB.out k hkE
            by_cases hfar : gn (outL NN ys) (Go.Proofs.Ythjcbboignmknaa.tN E k) < farV
            · have CR := hide (fun (W1 : World) (g : Grows w W1) => show Calls Try.prog 31 #[.agg #[.int .i64 (NN : Int), .slice (some ⟨bE, oE, none⟩) E.length c], .int .i64 (Go.Proofs.Ythjcbboignmknaa.tN E k : Int), .int .i64 (tN : Int), .agg #[.bool false, .slice none 0 0, .slice none 0 0, .slice B W.length d, .int .u64 0]] W1 fun e w' =>
                  e = .returned (.tuple #[.int .u64 (gn (outL NN ys) (Go.Proofs.Ythjcbboignmknaa.tN E k) : Int), .int .i64 0]) ∧ Grows W1 w' from by
                have := K7.out k hkE W1 g
                rw [if_pos hfar] at this
                exact this)
              have hfn : gn (outL NN ys) (Go.Proofs.Ythjcbboignmknaa.tN E k) < 4611686018427387904 := by unfold farV at hfar; exact hfar
              by_cases hfk : fN E k = sN
              · have hls := HLESS.out k hlt hfk hfar
                have hls2 : ¬ (gn (outL NN ys) (Go.Proofs.Ythjcbboignmknaa.tN E k) + gn (wtF NN E W) k ≤ f) := by omega
                have hb9 : ((fN E k : Int) == (sN : Int)) = true := by rw [hfk]; simp
                clear KS K7 HLESS hfar hfk hls HCE HKX HIN
                go_wp2_with fail
                ((first | refine wp_region_gen (by kernel_rfl) (by kernel_rfl) ?_); (repeat' (first | (refine gLex_val0 rfl (by kernel_rfl) (fun K hK => ?_); (go_simp; (try (simp only [↓IntWalk.iteOmega]; try go_simp)); (try simp (disch := omega) only [IntWalk.i64_in]); (try simp (disch := omega) only [IntWalk.u64_in]); first | (refine hK _ ?_; clear hK K) | (apply Exists.intro; refine ⟨fun x => ?_, hK _ ?_⟩; (first | (go_at_call 31; exact CR.out _ (by repeat (first | exact Grows.refl _ | refine Grows.now ?_ _ | refine Grows.new ?_ _ | refine Grows.drewN ?_ _ | refine Grows.drew ?_ | assumption | (refine Grows.set ?_ (by first | omega | (simp; done) | (simp; omega)) _))))); clear hK K))) | (refine gLex_undef rfl rfl rfl (by kernel_rfl) (fun K hK => ?_); go_simp; refine hK _ ?_; clear hK K) | (refine gLex_ask rfl rfl rfl ?_; first | (apply gAsk_yes; kernel_rfl; intro K hK; (go_simp; (try (simp only [↓IntWalk.iteOmega]; try go_simp)); (try simp (disch := omega) only [IntWalk.i64_in]); (try simp (disch := omega) only [IntWalk.u64_in]); first | (refine hK _ ?_; clear hK K) | (apply Exists.intro; refine ⟨fun x => ?_, hK _ ?_⟩; (first | (go_at_call 31; exact CR.out _ (by repeat (first | exact Grows.refl _ | refine Grows.now ?_ _ | refine Grows.new ?_ _ | refine Grows.drewN ?_ _ | refine Grows.drew ?_ | assumption | (refine Grows.set ?_ (by first | omega | (simp; done) | (simp; omega)) _))))); clear hK K))) | ((first | apply gAsk_no1 | apply gAsk_no2); kernel_rfl; intro K hK; simp [go_sem]; refine hK _ ?_; clear hK K) | (apply gAsk_part; kernel_rfl; all_goals (intro h K hK; (try simp only [Bool.not_true] at h); (try simp only [Bool.not_false] at h); (try simp only [decide_eq_true_eq] at h); (try simp only [decide_eq_false_iff_not] at h); first | (exfalso; first | contradiction | omega) | (go_simp; (try (simp only [↓IntWalk.iteOmega]; try go_simp)); (try simp (disch := omega) only [IntWalk.i64_in]); (try simp (disch := omega) only [IntWalk.u64_in]); first | (refine hK _ ?_; clear hK K) | (apply Exists.intro; refine ⟨fun x => ?_, hK _ ?_⟩; (first | (go_at_call 31; exact CR.out _ (by repeat (first | exact Grows.refl _ | refine Grows.now ?_ _ | refine Grows.new ?_ _ | refine Grows.drewN ?_ _ | refine Grows.drew ?_ | assumption | (refine Grows.set ?_ (by first | omega | (simp; done) | (simp; omega)) _))))); clear hK K))))))); all_goals ((apply gLex_end); intro x9))
                go_wp2_with fail
                ((first | refine wp_region_gen (by kernel_rfl) (by kernel_rfl) ?_); (repeat' (first | (refine gLex_val0 rfl (by kernel_rfl) (fun K hK => ?_); (go_simp; (try (simp only [↓IntWalk.iteOmega]; try go_simp)); (try simp (disch := omega) only [IntWalk.i64_in]); (try simp (disch := omega) only [IntWalk.u64_in]); first | (refine hK _ ?_; clear hK K) | (apply Exists.intro; refine ⟨fun x => ?_, hK _ ?_⟩; (first | fail); clear hK K))) | (refine gLex_undef rfl rfl rfl (by kernel_rfl) (fun K hK => ?_); go_simp; refine hK _ ?_; clear hK K) | (refine gLex_ask rfl rfl rfl ?_; first | (apply gAsk_yes; kernel_rfl; intro K hK; (go_simp; (try (simp only [↓IntWalk.iteOmega]; try go_simp)); (try simp (disch := omega) only [IntWalk.i64_in]); (try simp (disch := omega) only [IntWalk.u64_in]); first | (refine hK _ ?_; clear hK K) | (apply Exists.intro; refine ⟨fun x => ?_, hK _ ?_⟩; (first | fail); clear hK K))) | ((first | apply gAsk_no1 | apply gAsk_no2); kernel_rfl; intro K hK; simp [go_sem]; refine hK _ ?_; clear hK K) | (apply gAsk_part; kernel_rfl; all_goals (intro h K hK; (try simp only [Bool.not_true] at h); (try simp only [Bool.not_false] at h); (try simp only [decide_eq_true_eq] at h); (try simp only [decide_eq_false_iff_not] at h); first | (exfalso; first | contradiction | omega) | (go_simp; (try (simp only [↓IntWalk.iteOmega]; try go_simp)); (try simp (disch := omega) only [IntWalk.i64_in]); (try simp (disch := omega) only [IntWalk.u64_in]); first | (refine hK _ ?_; clear hK K) | (apply Exists.intro; refine ⟨fun x => ?_, hK _ ?_⟩; (first | fail); clear hK K))))))); all_goals ((apply gLex_end); intro x10))
                go_wp2_with fail
                go_roundw
                case measure => simp [Go.RowKit.intOf]; omega
                case rel => exact ⟨k + 1, by omega, by go_num, ⟨_, (by repeat (first | exact Grows.refl _ | refine Grows.now ?_ _ | refine Grows.new ?_ _ | refine Grows.drewN ?_ _ | refine Grows.drew ?_ | assumption | (refine Grows.set ?_ (by first | omega | (simp; done) | (simp; omega)) _)))⟩, rfl⟩
              · have hb9 : ((fN E k : Int) == (sN : Int)) = false := beq_eq_false_iff_ne.2 (by omega)
                clear KS K7 HLESS hfar hfk HCE HKX HIN
                go_wp2_with fail
                ((first | refine wp_region_gen (by kernel_rfl) (by kernel_rfl) ?_); (repeat' (first | (refine gLex_val0 rfl (by kernel_rfl) (fun K hK => ?_); (go_simp; (try (simp only [↓IntWalk.iteOmega]; try go_simp)); (try simp (disch := omega) only [IntWalk.i64_in]); (try simp (disch := omega) only [IntWalk.u64_in]); first | (refine hK _ ?_; clear hK K) | (apply Exists.intro; refine ⟨fun x => ?_, hK _ ?_⟩; (first | (go_at_call 31; exact CR.out _ (by repeat (first | exact Grows.refl _ | refine Grows.now ?_ _ | refine Grows.new ?_ _ | refine Grows.drewN ?_ _ | refine Grows.drew ?_ | assumption | (refine Grows.set ?_ (by first | omega | (simp; done) | (simp; omega)) _))))); clear hK K))) | (refine gLex_undef rfl rfl rfl (by kernel_rfl) (fun K hK => ?_); go_simp; refine hK _ ?_; clear hK K) | (refine gLex_ask rfl rfl rfl ?_; first | (apply gAsk_yes; kernel_rfl; intro K hK; (go_simp; (try (simp only [↓IntWalk.iteOmega]; try go_simp)); (try simp (disch := omega) only [IntWalk.i64_in]); (try simp (disch := omega) only [IntWalk.u64_in]); first | (refine hK _ ?_; clear hK K) | (apply Exists.intro; refine ⟨fun x => ?_, hK _ ?_⟩; (first | (go_at_call 31; exact CR.out _ (by repeat (first | exact Grows.refl _ | refine Grows.now ?_ _ | refine Grows.new ?_ _ | refine Grows.drewN ?_ _ | refine Grows.drew ?_ | assumption | (refine Grows.set ?_ (by first | omega | (simp; done) | (simp; omega)) _))))); clear hK K))) | ((first | apply gAsk_no1 | apply gAsk_no2); kernel_rfl; intro K hK; simp [go_sem]; refine hK _ ?_; clear hK K) | (apply gAsk_part; kernel_rfl; all_goals (intro h K hK; (try simp only [Bool.not_true] at h); (try simp only [Bool.not_false] at h); (try simp only [decide_eq_true_eq] at h); (try simp only [decide_eq_false_iff_not] at h); first | (exfalso; first | contradiction | omega) | (go_simp; (try (simp only [↓IntWalk.iteOmega]; try go_simp)); (try simp (disch := omega) only [IntWalk.i64_in]); (try simp (disch := omega) only [IntWalk.u64_in]); first | (refine hK _ ?_; clear hK K) | (apply Exists.intro; refine ⟨fun x => ?_, hK _ ?_⟩; (first | (go_at_call 31; exact CR.out _ (by repeat (first | exact Grows.refl _ | refine Grows.now ?_ _ | refine Grows.new ?_ _ | refine Grows.drewN ?_ _ | refine Grows.drew ?_ | assumption | (refine Grows.set ?_ (by first | omega | (simp; done) | (simp; omega)) _))))); clear hK K))))))); all_goals ((apply gLex_end); intro x9))
                go_wp2_with fail
                ((first | refine wp_region_gen (by kernel_rfl) (by kernel_rfl) ?_); (repeat' (first | (refine gLex_val0 rfl (by kernel_rfl) (fun K hK => ?_); (go_simp; (try (simp only [↓IntWalk.iteOmega]; try go_simp)); (try simp (disch := omega) only [IntWalk.i64_in]); (try simp (disch := omega) only [IntWalk.u64_in]); first | (refine hK _ ?_; clear hK K) | (apply Exists.intro; refine ⟨fun x => ?_, hK _ ?_⟩; (first | fail); clear hK K))) | (refine gLex_undef rfl rfl rfl (by kernel_rfl) (fun K hK => ?_); go_simp; refine hK _ ?_; clear hK K) | (refine gLex_ask rfl rfl rfl ?_; first | (apply gAsk_yes; kernel_rfl; intro K hK; (go_simp; (try (simp only [↓IntWalk.iteOmega]; try go_simp)); (try simp (disch := omega) only [IntWalk.i64_in]); (try simp (disch := omega) only [IntWalk.u64_in]); first | (refine hK _ ?_; clear hK K) | (apply Exists.intro; refine ⟨fun x => ?_, hK _ ?_⟩; (first | fail); clear hK K))) | ((first | apply gAsk_no1 | apply gAsk_no2); kernel_rfl; intro K hK; simp [go_sem]; refine hK _ ?_; clear hK K) | (apply gAsk_part; kernel_rfl; all_goals (intro h K hK; (try simp only [Bool.not_true] at h); (try simp only [Bool.not_false] at h); (try simp only [decide_eq_true_eq] at h); (try simp only [decide_eq_false_iff_not] at h); first | (exfalso; first | contradiction | omega) | (go_simp; (try (simp only [↓IntWalk.iteOmega]; try go_simp)); (try simp (disch := omega) only [IntWalk.i64_in]); (try simp (disch := omega) only [IntWalk.u64_in]); first | (refine hK _ ?_; clear hK K) | (apply Exists.intro; refine ⟨fun x => ?_, hK _ ?_⟩; (first | fail); clear hK K))))))); all_goals ((apply gLex_end); intro x10))
                go_wp2_with fail
                go_roundw
                case measure => simp [Go.RowKit.intOf]; omega
                case rel => exact ⟨k + 1, by omega, by go_num, ⟨_, (by repeat (first | exact Grows.refl _ | refine Grows.now ?_ _ | refine Grows.new ?_ _ | refine Grows.drewN ?_ _ | refine Grows.drew ?_ | assumption | (refine Grows.set ?_ (by first | omega | (simp; done) | (simp; omega)) _)))⟩, rfl⟩
            · have CR := hide (fun (W1 : World) (g : Grows w W1) => show Calls Try.prog 31 #[.agg #[.int .i64 (NN : Int), .slice (some ⟨bE, oE, none⟩) E.length c], .int .i64 (Go.Proofs.Ythjcbboignmknaa.tN E k : Int), .int .i64 (tN : Int), .agg #[.bool false, .slice none 0 0, .slice none 0 0, .slice B W.length d, .int .u64 0]] W1 fun e w' =>
                  e = .returned (.tuple #[.int .u64 0, .int .i64 9]) ∧ Grows W1 w' from by
                have := K7.out k hkE W1 g
                rw [if_neg hfar] at this
                exact this)
              by_cases hfk : fN E k = sN
              · have hb9 : ((fN E k : Int) == (sN : Int)) = true := by rw [hfk]; simp
                clear KS K7 HLESS hfar hfk HCE HKX HIN
                go_wp2_with fail
                ((first | refine wp_region_gen (by kernel_rfl) (by kernel_rfl) ?_); (repeat' (first | (refine gLex_val0 rfl (by kernel_rfl) (fun K hK => ?_); (go_simp; (try (simp only [↓IntWalk.iteOmega]; try go_simp)); (try simp (disch := omega) only [IntWalk.i64_in]); (try simp (disch := omega) only [IntWalk.u64_in]); first | (refine hK _ ?_; clear hK K) | (apply Exists.intro; refine ⟨fun x => ?_, hK _ ?_⟩; (first | (go_at_call 31; exact CR.out _ (by repeat (first | exact Grows.refl _ | refine Grows.now ?_ _ | refine Grows.new ?_ _ | refine Grows.drewN ?_ _ | refine Grows.drew ?_ | assumption | (refine Grows.set ?_ (by first | omega | (simp; done) | (simp; omega)) _))))); clear hK K))) | (refine gLex_undef rfl rfl rfl (by kernel_rfl) (fun K hK => ?_); go_simp; refine hK _ ?_; clear hK K) | (refine gLex_ask rfl rfl rfl ?_; first | (apply gAsk_yes; kernel_rfl; intro K hK; (go_simp; (try (simp only [↓IntWalk.iteOmega]; try go_simp)); (try simp (disch := omega) only [IntWalk.i64_in]); (try simp (disch := omega) only [IntWalk.u64_in]); first | (refine hK _ ?_; clear hK K) | (apply Exists.intro; refine ⟨fun x => ?_, hK _ ?_⟩; (first | (go_at_call 31; exact CR.out _ (by repeat (first | exact Grows.refl _ | refine Grows.now ?_ _ | refine Grows.new ?_ _ | refine Grows.drewN ?_ _ | refine Grows.drew ?_ | assumption | (refine Grows.set ?_ (by first | omega | (simp; done) | (simp; omega)) _))))); clear hK K))) | ((first | apply gAsk_no1 | apply gAsk_no2); kernel_rfl; intro K hK; simp [go_sem]; refine hK _ ?_; clear hK K) | (apply gAsk_part; kernel_rfl; all_goals (intro h K hK; (try simp only [Bool.not_true] at h); (try simp only [Bool.not_false] at h); (try simp only [decide_eq_true_eq] at h); (try simp only [decide_eq_false_iff_not] at h); first | (exfalso; first | contradiction | omega) | (go_simp; (try (simp only [↓IntWalk.iteOmega]; try go_simp)); (try simp (disch := omega) only [IntWalk.i64_in]); (try simp (disch := omega) only [IntWalk.u64_in]); first | (refine hK _ ?_; clear hK K) | (apply Exists.intro; refine ⟨fun x => ?_, hK _ ?_⟩; (first | (go_at_call 31; exact CR.out _ (by repeat (first | exact Grows.refl _ | refine Grows.now ?_ _ | refine Grows.new ?_ _ | refine Grows.drewN ?_ _ | refine Grows.drew ?_ | assumption | (refine Grows.set ?_ (by first | omega | (simp; done) | (simp; omega)) _))))); clear hK K))))))); all_goals ((apply gLex_end); intro x9))
                go_wp2_with fail
                ((first | refine wp_region_gen (by kernel_rfl) (by kernel_rfl) ?_); (repeat' (first | (refine gLex_val0 rfl (by kernel_rfl) (fun K hK => ?_); (go_simp; (try (simp only [↓IntWalk.iteOmega]; try go_simp)); (try simp (disch := omega) only [IntWalk.i64_in]); (try simp (disch := omega) only [IntWalk.u64_in]); first | (refine hK _ ?_; clear hK K) | (apply Exists.intro; refine ⟨fun x => ?_, hK _ ?_⟩; (first | fail); clear hK K))) | (refine gLex_undef rfl rfl rfl (by kernel_rfl) (fun K hK => ?_); go_simp; refine hK _ ?_; clear hK K) | (refine gLex_ask rfl rfl rfl ?_; first | (apply gAsk_yes; kernel_rfl; intro K hK; (go_simp; (try (simp only [↓IntWalk.iteOmega]; try go_simp)); (try simp (disch := omega) only [IntWalk.i64_in]); (try simp (disch := omega) only [IntWalk.u64_in]); first | (refine hK _ ?_; clear hK K) | (apply Exists.intro; refine ⟨fun x => ?_, hK _ ?_⟩; (first | fail); clear hK K))) | ((first | apply gAsk_no1 | apply gAsk_no2); kernel_rfl; intro K hK; simp [go_sem]; refine hK _ ?_; clear hK K) | (apply gAsk_part; kernel_rfl; all_goals (intro h K hK; (try simp only [Bool.not_true] at h); (try simp only [Bool.not_false] at h); (try simp only [decide_eq_true_eq] at h); (try simp only [decide_eq_false_iff_not] at h); first | (exfalso; first | contradiction | omega) | (go_simp; (try (simp only [↓IntWalk.iteOmega]; try go_simp)); (try simp (disch := omega) only [IntWalk.i64_in]); (try simp (disch := omega) only [IntWalk.u64_in]); first | (refine hK _ ?_; clear hK K) | (apply Exists.intro; refine ⟨fun x => ?_, hK _ ?_⟩; (first | fail); clear hK K))))))); all_goals ((apply gLex_end); intro x10))
                go_wp2_with fail
                go_roundw
                case measure => simp [Go.RowKit.intOf]; omega
                case rel => exact ⟨k + 1, by omega, by go_num, ⟨_, (by repeat (first | exact Grows.refl _ | refine Grows.now ?_ _ | refine Grows.new ?_ _ | refine Grows.drewN ?_ _ | refine Grows.drew ?_ | assumption | (refine Grows.set ?_ (by first | omega | (simp; done) | (simp; omega)) _)))⟩, rfl⟩
              · have hb9 : ((fN E k : Int) == (sN : Int)) = false := beq_eq_false_iff_ne.2 (by omega)
                clear KS K7 HLESS hfar hfk HCE HKX HIN
                go_wp2_with fail
                ((first | refine wp_region_gen (by kernel_rfl) (by kernel_rfl) ?_); (repeat' (first | (refine gLex_val0 rfl (by kernel_rfl) (fun K hK => ?_); (go_simp; (try (simp only [↓IntWalk.iteOmega]; try go_simp)); (try simp (disch := omega) only [IntWalk.i64_in]); (try simp (disch := omega) only [IntWalk.u64_in]); first | (refine hK _ ?_; clear hK K) | (apply Exists.intro; refine ⟨fun x => ?_, hK _ ?_⟩; (first | (go_at_call 31; exact CR.out _ (by repeat (first | exact Grows.refl _ | refine Grows.now ?_ _ | refine Grows.new ?_ _ | refine Grows.drewN ?_ _ | refine Grows.drew ?_ | assumption | (refine Grows.set ?_ (by first | omega | (simp; done) | (simp; omega)) _))))); clear hK K))) | (refine gLex_undef rfl rfl rfl (by kernel_rfl) (fun K hK => ?_); go_simp; refine hK _ ?_; clear hK K) | (refine gLex_ask rfl rfl rfl ?_; first | (apply gAsk_yes; kernel_rfl; intro K hK; (go_simp; (try (simp only [↓IntWalk.iteOmega]; try go_simp)); (try simp (disch := omega) only [IntWalk.i64_in]); (try simp (disch := omega) only [IntWalk.u64_in]); first | (refine hK _ ?_; clear hK K) | (apply Exists.intro; refine ⟨fun x => ?_, hK _ ?_⟩; (first | (go_at_call 31; exact CR.out _ (by repeat (first | exact Grows.refl _ | refine Grows.now ?_ _ | refine Grows.new ?_ _ | refine Grows.drewN ?_ _ | refine Grows.drew ?_ | assumption | (refine Grows.set ?_ (by first | omega | (simp; done) | (simp; omega)) _))))); clear hK K))) | ((first | apply gAsk_no1 | apply gAsk_no2); kernel_rfl; intro K hK; simp [go_sem]; refine hK _ ?_; clear hK K) | (apply gAsk_part; kernel_rfl; all_goals (intro h K hK; (try simp only [Bool.not_true] at h); (try simp only [Bool.not_false] at h); (try simp only [decide_eq_true_eq] at h); (try simp only [decide_eq_false_iff_not] at h); first | (exfalso; first | contradiction | omega) | (go_simp; (try (simp only [↓IntWalk.iteOmega]; try go_simp)); (try simp (disch := omega) only [IntWalk.i64_in]); (try simp (disch := omega) only [IntWalk.u64_in]); first | (refine hK _ ?_; clear hK K) | (apply Exists.intro; refine ⟨fun x => ?_, hK _ ?_⟩; (first | (go_at_call 31; exact CR.out _ (by repeat (first | exact Grows.refl _ | refine Grows.now ?_ _ | refine Grows.new ?_ _ | refine Grows.drewN ?_ _ | refine Grows.drew ?_ | assumption | (refine Grows.set ?_ (by first | omega | (simp; done) | (simp; omega)) _))))); clear hK K))))))); all_goals ((apply gLex_end); intro x9))
                go_wp2_with fail
                ((first | refine wp_region_gen (by kernel_rfl) (by kernel_rfl) ?_); (repeat' (first | (refine gLex_val0 rfl (by kernel_rfl) (fun K hK => ?_); (go_simp; (try (simp only [↓IntWalk.iteOmega]; try go_simp)); (try simp (disch := omega) only [IntWalk.i64_in]); (try simp (disch := omega) only [IntWalk.u64_in]); first | (refine hK _ ?_; clear hK K) | (apply Exists.intro; refine ⟨fun x => ?_, hK _ ?_⟩; (first | fail); clear hK K))) | (refine gLex_undef rfl rfl rfl (by kernel_rfl) (fun K hK => ?_); go_simp; refine hK _ ?_; clear hK K) | (refine gLex_ask rfl rfl rfl ?_; first | (apply gAsk_yes; kernel_rfl; intro K hK; (go_simp; (try (simp only [↓IntWalk.iteOmega]; try go_simp)); (try simp (disch := omega) only [IntWalk.i64_in]); (try simp (disch := omega) only [IntWalk.u64_in]); first | (refine hK _ ?_; clear hK K) | (apply Exists.intro; refine ⟨fun x => ?_, hK _ ?_⟩; (first | fail); clear hK K))) | ((first | apply gAsk_no1 | apply gAsk_no2); kernel_rfl; intro K hK; simp [go_sem]; refine hK _ ?_; clear hK K) | (apply gAsk_part; kernel_rfl; all_goals (intro h K hK; (try simp only [Bool.not_true] at h); (try simp only [Bool.not_false] at h); (try simp only [decide_eq_true_eq] at h); (try simp only [decide_eq_false_iff_not] at h); first | (exfalso; first | contradiction | omega) | (go_simp; (try (simp only [↓IntWalk.iteOmega]; try go_simp)); (try simp (disch := omega) only [IntWalk.i64_in]); (try simp (disch := omega) only [IntWalk.u64_in]); first | (refine hK _ ?_; clear hK K) | (apply Exists.intro; refine ⟨fun x => ?_, hK _ ?_⟩; (first | fail); clear hK K))))))); all_goals ((apply gLex_end); intro x10))
                go_wp2_with fail
                go_roundw
                case measure => simp [Go.RowKit.intOf]; omega
                case rel => exact ⟨k + 1, by omega, by go_num, ⟨_, (by repeat (first | exact Grows.refl _ | refine Grows.now ?_ _ | refine Grows.new ?_ _ | refine Grows.drewN ?_ _ | refine Grows.drew ?_ | assumption | (refine Grows.set ?_ (by first | omega | (simp; done) | (simp; omega)) _)))⟩, rfl⟩
          · clear KS K7 HLESS HCE HKX HIN
            go_wp2_with fail
            refine (alive15 _).mono ?_; rintro e w' ⟨rfl, hg⟩; obtain ⟨x9, hx9⟩ : ∃ x9 : Later x8.now, w' = x9.now := hg.later; subst hx9; clear hg
            go_wp2_with fail
            go_ret
            exact ⟨rfl, (by repeat (first | exact Grows.refl _ | refine Grows.now ?_ _ | refine Grows.new ?_ _ | refine Grows.drewN ?_ _ | refine Grows.drew ?_ | assumption | (refine Grows.set ?_ (by first | omega | (simp; done) | (simp; omega)) _)))⟩)
  · obtain ⟨hl, hf⟩ := hp.zero hr
    subst hl hf
    have hln : ([] : List Nat).length = 0 := rfl
    rw [hln] at K1
    have K2 := hide (fun (W1 : World) (g : Grows w W1) => djOneNoWay hp hr A c B d W1 (h.grows g) (h'.grows g) (nilR _) hn hm)
    have hb1 : (r == 0) = false := beq_eq_false_iff_ne.2 hr
    clear h h' hp hln nilR hr
    go_enter Try.func6, Try.ntmps6
    go_wp2_with (go_at_call 22; refine (H1.out _).mono ?_; rintro e w' ⟨rfl, hg⟩; obtain ⟨x1, rfl⟩ := hg.later; clear hg)
    refine (K1.out _ (by repeat (first | exact Grows.refl _ | refine Grows.now ?_ _ | refine Grows.new ?_ _ | refine Grows.drewN ?_ _ | refine Grows.drew ?_ | assumption | (refine Grows.set ?_ (by first | omega | (simp; done) | (simp; omega)) _)))).mono ?_; rintro e w' ⟨A7, c7, rfl, _, hg⟩; obtain ⟨x3, rfl⟩ := Grows.later2 hg; clear hg
    go_wp2_with fail
    refine (K2.out _ (by repeat (first | exact Grows.refl _ | refine Grows.now ?_ _ | refine Grows.new ?_ _ | refine Grows.drewN ?_ _ | refine Grows.drew ?_ | assumption | (refine Grows.set ?_ (by first | omega | (simp; done) | (simp; omega)) _)))).mono ?_; rintro e w' ⟨rfl, hg⟩; obtain ⟨x4, hx4⟩ : ∃ x4 : Later _, w' = x4.now := hg.later; subst hx4; clear hg
    go_wp2_with fail
    refine (alive15 _).mono ?_; rintro e w' ⟨rfl, hg⟩; obtain ⟨x7, rfl⟩ := hg.later; clear hg
    go_wp2_with fail
    go_ret
    exact ⟨rfl, (by repeat (first | exact Grows.refl _ | refine Grows.now ?_ _ | refine Grows.new ?_ _ | refine Grows.drewN ?_ _ | refine Grows.drew ?_ | assumption | (refine Grows.set ?_ (by first | omega | (simp; done) | (simp; omega)) _)))⟩
end Go.Proofs.Ythjcbboignmknaa

/- The law CanonRests: for every input it returns true, and each argument reads as before. No condition. -/
namespace Go.Proofs.Ythjcbboignmknaa.lawCanonRests
open Go Go.ChangeShapes Go.WideShapes Go.ChangeAt Go.RowKit Go.Proofs.Ythjcbboignmknaa

theorem own : ownKnob Try.prog.godebug = none := by kernel_rfl
theorem laidOut : laidOutB Try.prog = true := by kernel_rfl

set_option maxRecDepth 100000 in
theorem lifted (os : Os) (started : os.Started) (H : Type) (enc : TypeId × Value → H) :
    ReturnsInHanded {} Try.checked os 6 .any (Rows.canonRestsSpec.pre6 enc Try.prog Try.f6 Rows.canonRestsRow.domain false) (Rows.canonRestsSpec.post enc Try.prog Try.f6 false true false false) := by
  refine returnsInHanded_of_change (C := Try.checked) own started (by kernel_rfl) Try.func6
    (ChangeSpec.witness6 (enc := enc) (C := Try.checked) false ⟨#[], #[.agg #[.int .i64 0, .slice none 0 0], .int .i64 0, .int .i64 0, .slice none 0 0], []⟩ 8 (by kernel_rfl) (by kernel_rfl) (by kernel_rfl) (by kernel_rfl)) ?_
  intro W base args ds gs before hval0 hW hcnd _
  have hval : ∀ (j : Nat) t v, Try.f6.params[j]? = some t → args[j]? = some v → Value.okWide Try.prog W .any base t v := hval0
  have hW' := hW
  obtain ⟨p, q, hA0, hV, rfl, hfz, hnd⟩ := hW
  have hA : DataW.TrodAll enc Try.prog W 0 (fun _ => true) true Try.f6.params.toList args.toList ds p := hA0
  rw [Try.params6] at hA hval
  obtain ⟨v0, vs0, d0, ds0, p0, q0, hargs, rfl, rfl, h0, r0⟩ := trodAll_cons hA
  obtain ⟨v1, vs1, d1, ds1, p1, q1, rfl, rfl, rfl, h1, r1⟩ := trodAll_cons r0
  obtain ⟨v2, vs2, d2, ds2, p2, q2, rfl, rfl, rfl, h2, r2⟩ := trodAll_cons r1
  obtain ⟨v3, vs3, d3, ds3, p3, q3, rfl, rfl, rfl, h3, r3⟩ := trodAll_cons r2
  obtain ⟨rfl, rfl, rfl⟩ := trodAll_nil r3
  obtain rfl : args = #[v0, v1, v2, v3] := by cases args; simp_all
  obtain ⟨rfl, rfl⟩ := trodVars_none hV
  have k0 := h0
  have lt0 : ∀ x ∈ p0, x.block < W.heap.size := by obtain ⟨m, hm⟩ := k0; exact DataW.trod_lt m _ _ _ hm
  obtain ⟨a0, A0, n0, c0, z0, rfl, x0, l0, w0, u0⟩ := open_graph Try.underlying24 Try.underlying3 Try.underlying22 Try.underlying62 Try.underlying3 Try.underlying3 Try.underlying37 ⟨rfl, rfl, rfl⟩ ⟨by kernel_rfl, by kernel_rfl, by kernel_rfl⟩ (by kernel_rfl) (by kernel_rfl) (by kernel_rfl) (hval 0 24 v0 rfl rfl) h0
  have k1 := h1
  have lt1 : ∀ x ∈ p1, x.block < W.heap.size := by obtain ⟨m, hm⟩ := k1; exact DataW.trod_lt m _ _ _ hm
  obtain ⟨a1, rfl, w1⟩ := open_i64 Try.underlying3 (hval 1 3 v1 rfl rfl) h1
  have k2 := h2
  have lt2 : ∀ x ∈ p2, x.block < W.heap.size := by obtain ⟨m, hm⟩ := k2; exact DataW.trod_lt m _ _ _ hm
  obtain ⟨a2, rfl, w2⟩ := open_i64 Try.underlying3 (hval 2 3 v2 rfl rfl) h2
  have k3 := h3
  have lt3 : ∀ x ∈ p3, x.block < W.heap.size := by obtain ⟨m, hm⟩ := k3; exact DataW.trod_lt m _ _ _ hm
  obtain ⟨A3, n3, c3, z3, rfl, l3, w3, u3⟩ := open_numsC Try.underlying36 Try.underlying37 (by kernel_rfl) (hval 3 36 v3 rfl rfl) h3
  clear hA0 hval0
  refine (canonRestsW a0 A0 n0 c0 z0 a1 a2 A3 n3 c3 z3 W x0 l0 w0 u0 w1 w2 l3 w3 u3).mono fun e W' ⟨he, bel⟩ => ?_
  subst he
  exact ⟨_, rfl, _, _, _, [], _, [], hW', trodAll_mk1 (shut_bool Try.underlying4 _), (trodAll_cons_mk (Below.trod laidOut (by kernel_rfl) (of_decide_eq_true (by kernel_rfl)) k0 bel lt0) (trodAll_cons_mk (Below.trod laidOut (by kernel_rfl) (of_decide_eq_true (by kernel_rfl)) k1 bel lt1) (trodAll_cons_mk (Below.trod laidOut (by kernel_rfl) (of_decide_eq_true (by kernel_rfl)) k2 bel lt2) (trodAll_cons_mk (Below.trod laidOut (by kernel_rfl) (of_decide_eq_true (by kernel_rfl)) k3 bel lt3) trodAll_mk0)))), rfl, Below.frame bel _, fun h => by cases h⟩

theorem over : Rows.canonRestsRow.holds Try.pinned (OpenSpec.ofChange Rows.canonRestsSpec) :=
  OpenClaim.holds_of_wide 6 Try.f6 rfl rfl rfl rfl rfl rfl rfl ⟨rfl, rfl, rfl, rfl, rfl⟩ rfl rfl rfl rfl rfl (by kernel_rfl) Try.func6 (by kernel_rfl)
    (of_decide_eq_true (by kernel_rfl)) (by unfold Func.isWrapper; first | (rw [if_pos (by decide +kernel)]; kernel_rfl) | (rw [if_neg (by decide +kernel)]; exact ⟨rfl, rfl⟩))
    (fun os started H enc _ => lifted os started H enc)

end Go.Proofs.Ythjcbboignmknaa.lawCanonRests
namespace Go.Proofs.Ythjcbboignmknaa
/-- The statement. -/
theorem canonRests_proved : Rows.CanonRestsSaid := lawCanonRests.over
#print axioms canonRests_proved
end Go.Proofs.Ythjcbboignmknaa
