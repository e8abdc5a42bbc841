/- The law PenWays: for every input it returns true, and each argument reads as before. No condition. -/
import Derived.Test.YtgplpgldhoelcaaGreatQPenWays13
import Derived.Test.YtgplpgldhoelcaaGreatQPenWays16
import Derived.Test.YtgplpgldhoelcaaGreatQPenWays25
import Derived.Test.YtgplpgldhoelcaaGreatQPenWays27
namespace Go.Proofs.YtgplpgldhoelcaaGreat
open Go Go.RowKit
theorem RtsRd.len {w : World} {A : Option Addr} {rs : List Rt} {ps : List (List Nat × Nat)} (h : RtsRd w A rs ps) : rs.length = ps.length := by rw [← h.eqs, List.length_map]
theorem RtsRd.at {w : World} {A : Option Addr} {rs : List Rt} {ps : List (List Nat × Nat)} (h : RtsRd w A rs ps) {i : Nat} {r : Rt} (hi : rs[i]? = some r) :
    ∃ g off, A = some ⟨g, off, none⟩ ∧ Holds w ⟨g, off + i * 2, none⟩ (.slice r.1 r.2.2.1.length r.2.1) ∧ Holds w ⟨g, off + i * 2 + 1, none⟩ (.int .u64 (r.2.2.2 : Int)) ∧ Own w 0 3 1 r.1 r.2.2.1.length r.2.1 (nv r.2.2.1) := by
  have hl : 0 < rs.length := by
    have := (List.getElem?_eq_some_iff.1 hi).1
    omega
  obtain ⟨g, off, rfl, hc⟩ := h.rd.2 hl (by omega)
  have h1 := rtFlat_at rs i
  rw [hi] at h1
  exact ⟨g, off, rfl, ⟨hc (i * 2) _ h1.1⟩, ⟨by rw [Nat.add_assoc]; exact hc (i * 2 + 1) _ h1.2⟩, h.rows r (List.mem_of_getElem? hi)⟩
set_option maxRecDepth 20000 in
set_option maxHeartbeats 4000000 in
theorem r8RoutesRd (A A2 : Option Addr) (c c2 : Nat) (rs rs2 : List Rt) (ps : List (List Nat × Nat)) (w : World) (h : RtsRd w A rs ps) (h2 : RtsRd w A2 rs2 ps) (hn : ps.length ≤ 1000000) (hl : ∀ p, p ∈ ps → p.1.length ≤ 1000000) :
    Calls Tryz.prog 21 #[.slice A rs.length c, .slice A2 rs2.length c2] w fun e w' => e = .returned (.bool true) ∧ Grows w w' := by
  have e1 := h.len
  have e2 := h2.len
  have HH := hide h
  have HH2 := hide h2
  have HL := hide hl
  rw [e1, e2]
  have E1 := hide e1
  have E2 := hide e2
  clear h h2 hl e1 e2
  obtain ⟨n, hnn⟩ : ∃ n, ps.length = n := ⟨_, rfl⟩
  rw [hnn] at hn E1 E2 ⊢
  have HN := hide hnn
  clear hnn
  go_enter Tryz.func21, Tryz.ntmps21
  go_wp2_with fail
  go_loopw [5] (fun i wr => ∃ k : Nat, k ≤ n ∧ i = .int .i64 (k : Int) ∧ (∃ x : Later w, wr = x.now)) (fun i _ => n - (intOf i).toNat)
  case atStart => exact ⟨0, by omega, by go_num, ⟨⟨w, Grows.refl w⟩, rfl⟩⟩
  case round =>
    obtain ⟨q, hq, rfl, ⟨x, rfl⟩⟩ := hrel
    by_cases hend : n ≤ q
    · go_wp2_with fail
      go_ret
      exact ⟨rfl, GG⟩
    · obtain ⟨r, hr⟩ : ∃ r, rs[q]? = some r := ⟨rs[q]'(by have := E1.out; omega), by simp⟩
      obtain ⟨r2, hr2⟩ : ∃ r, rs2[q]? = some r := ⟨rs2[q]'(by have := E2.out; omega), by simp⟩
      have hp : ps[q]? = some (r.2.2.1, r.2.2.2) := by rw [← HH.out.eqs, List.getElem?_map, hr]; rfl
      have hp2 : ps[q]? = some (r2.2.2.1, r2.2.2.2) := by rw [← HH2.out.eqs, List.getElem?_map, hr2]; rfl
      rw [hp] at hp2
      injection hp2 with hp2
      injection hp2 with hp3 hp4
      have hlr := HL.out _ (List.mem_of_getElem? hp)
      obtain ⟨g, of1, hA, k1, k2, o1⟩ := HH.out.at hr
      obtain ⟨g2, of2, hA2, m1, m2, o2⟩ := HH2.out.at hr2
      subst hA hA2
      obtain ⟨A8, c8, l8, f8⟩ := r
      obtain ⟨A9, c9, l9, f9⟩ := r2
      simp only at hp3 hp4 k1 k2 m1 m2 o1 o2 hlr
      subst hp3 hp4
      have e9 : nv l8 = (l8.map fun (i : Nat) => (i : Int)).map (.int .i64) := by unfold nv; rw [List.map_map]; rfl
      have C1 := hide (fun (W1 : World) (g : Grows w W1) => show Calls Tryz.prog 24 #[.agg #[.slice A8 l8.length c8, .int .u64 (f8 : Int)], .agg #[.slice A9 l8.length c9, .int .u64 (f8 : Int)]] W1 fun e w' => e = .returned (.int .i64 0) ∧ Grows W1 w' from by
        have h1 := o1.rd.grows g
        have h2 := o2.rd.grows g
        rw [e9] at h1 h2
        exact r8CmpEq A8 l8.length c8 _ A9 c9 f8 W1 h1 hlr h2)
      clear hp hr hr2 o1 o2 e9 hlr
      go_wp2_with fail
      ((first | refine wp_region_gen2 (by kernel_rfl) (by kernel_rfl) ?_ | refine wp_region_gen (by kernel_rfl) (by kernel_rfl) ?_); (repeat' ((first | refine gLex_val0 rfl (by kernel_rfl) (fun K hK => ?_) | refine gLex_undef rfl rfl rfl (by kernel_rfl) (fun K hK => ?_) | (refine gLex_ask rfl rfl rfl ?_; first | (apply gAsk_yes; kernel_rfl; intro K hK) | ((first | apply gAsk_no1 | apply gAsk_no2); kernel_rfl; intro K hK) | (apply gAsk_part; kernel_rfl; all_goals (intro h K hK; (try simp only [Bool.not_true, Bool.not_false, decide_eq_true_eq, decide_eq_false_iff_not] at h); try (exfalso; first | contradiction | omega))))) <;> (go_simp; (try (simp only [↓IntWalk.iteOmega]; try go_simp)); (try simp (disch := omega) only [IntWalk.i64_in, IntWalk.u64_in]); first | (refine hK _ ?_; clear hK K) | (apply Exists.intro; refine ⟨fun x => ?_, hK _ ?_⟩; (first | (go_at_call 24; exact C1.out _ GG)); clear hK K)))); all_goals ((apply gLex_end); intro y))
      go_wp2_with fail
      go_roundw
      case measure => simp [intOf]; omega
      case rel => exact ⟨q + 1, by omega, by go_num, ⟨⟨_, GG⟩, rfl⟩⟩
structure RtsOk (w : World) (A : Option Addr) (rs : List Rt) (ps : List (List Nat × Nat)) : Prop where
  rd : RtsRd w A rs ps
  n : ps.length ≤ 1000000
  l : ∀ p, p ∈ ps → p.1.length ≤ 1000000
theorem RtsOk.grows {w w' : World} {A : Option Addr} {rs : List Rt} {ps : List (List Nat × Nat)} (h : RtsOk w A rs ps) (hg : Grows w w') : RtsOk w' A rs ps := ⟨h.rd.grows hg, h.n, h.l⟩
theorem r8RoutesOk (A A2 : Option Addr) (c c2 : Nat) (rs rs2 : List Rt) (ps : List (List Nat × Nat)) (w : World) (h : RtsOk w A rs ps) (h2 : RtsOk w A2 rs2 ps) :
    Calls Tryz.prog 21 #[.slice A rs.length c, .slice A2 rs2.length c2] w fun e w' => e = .returned (.bool true) ∧ Grows w w' := r8RoutesRd A A2 c c2 rs rs2 ps w h.rd h2.rd h.n h.l
def RwP (ps : List (List Nat × Nat)) : Pr := fun u w => ∃ A c rs, u = .tuple #[.slice A rs.length c, .int .i64 0] ∧ RtsOk w A rs ps
theorem RwP.lasts (ps : List (List Nat × Nat)) : Lasts (RwP ps) := fun _ _ _ hg ⟨A, c, rs, e, h⟩ => ⟨A, c, rs, e, h.grows hg⟩
def SlP (ps : List (List Nat × Nat)) : Pr := fun u w => ∃ A c rs, u = .slice A rs.length c ∧ RtsOk w A rs ps
theorem SlP.lasts (ps : List (List Nat × Nat)) : Lasts (SlP ps) := fun _ _ _ hg ⟨A, c, rs, e, h⟩ => ⟨A, c, rs, e, h.grows hg⟩
end Go.Proofs.YtgplpgldhoelcaaGreat

namespace Go.Proofs.YtgplpgldhoelcaaGreat
open Go Go.ChangeShapes Go.WideShapes Go.ChangeAt Go.RowKit Go.Deep
section
variable {H : Type} {enc : TypeId × Value → H} {P : Program} {w : World} {base b0 : Nat} {held : Bool} {r : Reach} {t : TypeId} {v : Value} {d : DataW H} {p : List MemPlace}
theorem open_uuF {f0 f1 : Field} {fuel : Nat} {x : DataW H × List MemPlace} {cs : List Value} (hs : P.underlying t = some (.struct #[f0, f1])) (h0 : P.underlying f0.type = some (.int .u64)) (h1 : P.underlying f1.type = some (.int .u64)) (ho : f0.offset = 0 ∧ f1.offset = 1)
    (hcs : P.cellsOf f0.type = 1 ∧ P.cellsOf f1.type = 1) (hc : P.cellsOf t = 2) (h : DataW.trod enc P w base (fun _ => true) held fuel t cs = some x) : ∃ a b : Int, cs = [.int .u64 a, .int .u64 b] ∧ U64 a ∧ U64 b := by
  obtain ⟨y0, y1, k, _, hlen, e0, e1⟩ := trod_struct2 hs h
  rw [ho.1, hcs.1] at e0
  rw [ho.2, hcs.2] at e1
  rw [hc] at hlen
  match cs, hlen with
  | [c0, c1], _ =>
    obtain ⟨a, ha, _, wa⟩ := DataW.trod_int h0 e0
    obtain ⟨b, hb, _, wb⟩ := DataW.trod_int h1 e1
    simp at ha hb
    subst ha hb
    exact ⟨a, b, rfl, wf_u64 wa, wf_u64 wb⟩
def poIn (o : PO) : Prop := I64 o.k ∧ I64 o.r ∧ (U64 o.f1 ∧ U64 o.f2) ∧ (U64 o.a1 ∧ U64 o.a2) ∧ (U64 o.e1 ∧ U64 o.e2) ∧ (U64 o.g1 ∧ U64 o.g2)
theorem open_popt {f0 f1 f2 f3 f4 f5 g0 g1 : Field} {tr : TypeId} (hs : P.underlying t = some (.struct #[f0, f1, f2, f3, f4, f5])) (k0 : P.underlying f0.type = some (.int .i64)) (k1 : P.underlying f1.type = some (.int .i64))
    (t2 : f2.type = tr ∧ f3.type = tr ∧ f4.type = tr ∧ f5.type = tr) (hr : P.underlying tr = some (.struct #[g0, g1])) (l0 : P.underlying g0.type = some (.int .u64)) (l1 : P.underlying g1.type = some (.int .u64)) (lo : g0.offset = 0 ∧ g1.offset = 1)
    (lcs : P.cellsOf g0.type = 1 ∧ P.cellsOf g1.type = 1) (lc : P.cellsOf tr = 2) (ho : f0.offset = 0 ∧ f1.offset = 1 ∧ f2.offset = 2 ∧ f3.offset = 4 ∧ f4.offset = 6 ∧ f5.offset = 8) (hcs : P.cellsOf f0.type = 1 ∧ P.cellsOf f1.type = 1) (hC : P.cellsOf t = 10)
    (hv : Value.okWide P w r b0 t v) (h : DataW.Trod enc P w base (fun _ => true) held t v d p) : ∃ o : PO, v = poV o ∧ poIn o := by
  obtain ⟨cs, rfl, hsz⟩ := okWide_struct hs hv
  obtain ⟨l⟩ := cs
  match l, hsz.trans hC with
  | [c0, c1, c2, c3, c4, c5, c6, c7, c8, c9], _ =>
    obtain ⟨fuel, hf⟩ := h
    obtain ⟨xs, n, _, hx, _, hlen, hg⟩ := DataW.trod_struct hs hf
    obtain ⟨o0, o1, o2, o3, o4, o5⟩ := ho
    obtain ⟨m2, m3, m4, m5⟩ := t2
    match xs, hlen with
    | [y0, y1, y2, y3, y4, y5], _ =>
      have q0 : DataW.trod enc P w base (fun _ => true) held n f0.type [c0] = some y0 := by simpa [Value.cells, o0, hcs.1] using hg 0 f0 rfl
      have q1 : DataW.trod enc P w base (fun _ => true) held n f1.type [c1] = some y1 := by simpa [Value.cells, o1, hcs.2] using hg 1 f1 rfl
      have q2 : DataW.trod enc P w base (fun _ => true) held n tr [c2, c3] = some y2 := by simpa [Value.cells, o2, m2, lc] using hg 2 f2 rfl
      have q3 : DataW.trod enc P w base (fun _ => true) held n tr [c4, c5] = some y3 := by simpa [Value.cells, o3, m3, lc] using hg 3 f3 rfl
      have q4 : DataW.trod enc P w base (fun _ => true) held n tr [c6, c7] = some y4 := by simpa [Value.cells, o4, m4, lc] using hg 4 f4 rfl
      have q5 : DataW.trod enc P w base (fun _ => true) held n tr [c8, c9] = some y5 := by simpa [Value.cells, o5, m5, lc] using hg 5 f5 rfl
      obtain ⟨x, e0, _, w0⟩ := DataW.trod_int k0 q0
      obtain ⟨y, e1, _, w1⟩ := DataW.trod_int k1 q1
      obtain ⟨a2, b2, e2, u2, v2⟩ := open_uuF hr l0 l1 lo lcs lc q2
      obtain ⟨a3, b3, e3, u3, v3⟩ := open_uuF hr l0 l1 lo lcs lc q3
      obtain ⟨a4, b4, e4, u4, v4⟩ := open_uuF hr l0 l1 lo lcs lc q4
      obtain ⟨a5, b5, e5, u5, v5⟩ := open_uuF hr l0 l1 lo lcs lc q5
      simp at e0 e1 e2 e3 e4 e5
      obtain ⟨rfl, rfl⟩ := e2
      obtain ⟨rfl, rfl⟩ := e3
      obtain ⟨rfl, rfl⟩ := e4
      obtain ⟨rfl, rfl⟩ := e5
      subst e0 e1
      exact ⟨⟨x, y, a2, b2, a3, b3, a4, b4, a5, b5⟩, rfl, wf_i64 w0, wf_i64 w1, ⟨u2, v2⟩, ⟨u3, v3⟩, ⟨u4, v4⟩, ⟨u5, v5⟩⟩
end
end Go.Proofs.YtgplpgldhoelcaaGreat

namespace Go.Proofs.YtgplpgldhoelcaaGreat
open Go Go.RowKit
attribute [local go_sem] Oper.semAt_some
theorem box2 (w : World) (c1 c2 : List Value) (t1 t2 : TypeId) :
    Grows w ((w.alloc (.cells c1.toArray t1)).alloc (.cells c2.toArray t2)) ∧ Arr ((w.alloc (.cells c1.toArray t1)).alloc (.cells c2.toArray t2)) w.heap.size t1 c1 ∧ Arr ((w.alloc (.cells c1.toArray t1)).alloc (.cells c2.toArray t2)) (w.heap.size + 1) t2 c2 := by
  refine ⟨((Grows.refl _).new _).new _, (Arr.make _ _ _).grow ((Grows.refl _).new _), ?_⟩
  have h := Arr.make (w.alloc (.cells c1.toArray t1)) c2 t2
  have e : (w.alloc (.cells c1.toArray t1)).heap.size = w.heap.size + 1 := by simp
  rwa [e] at h
theorem gtr_no {w w' : World} {po : Bool} {r R z : Int} {P : Nat → List Nat} {V : Nat → Nat} {e : Ending} (h : GiveTr w po r R P V e w') (hz : (po = false ∧ z = 1) ∨ (po = true ∧ r ≠ 0 ∧ z = r)) : e = .returned (.tuple #[.slice none 0 0, .int .i64 z]) ∧ Grows w w' := by
  unfold GiveTr at h
  rcases hz with ⟨h1, rfl⟩ | ⟨h1, h2, rfl⟩
  · rwa [if_pos h1] at h
  · rwa [if_neg (by rw [h1]; decide), if_pos h2] at h
theorem gws_no {w w' : World} {po : Bool} {r z : Int} {n K : Nat} {why : Nat → List Nat → Int} {F : Nat → List Nat × Nat} {e : Ending} (h : GiveWs w po r n K why F e w') (hz : (po = false ∧ z = 1) ∨ (po = true ∧ r ≠ 0 ∧ z = r)) : e = .returned (.tuple #[.slice none 0 0, .int .i64 z]) ∧ Grows w w' := by
  unfold GiveWs at h
  rcases hz with ⟨h1, rfl⟩ | ⟨h1, h2, rfl⟩
  · rwa [if_pos h1] at h
  · rwa [if_neg (by rw [h1]; decide), if_pos h2] at h
theorem gwr_no {w w' : World} {po : Bool} {r z : Int} {n K : Nat} {why : Nat → List Nat → Int} {F : Nat → List Nat × Nat} {e : Ending} (h : GiveWr w po r n K why F e w') (hz : (po = false ∧ z = 1) ∨ (po = true ∧ r ≠ 0 ∧ z = r)) : e = .returned (.tuple #[.slice none 0 0, .int .i64 z]) ∧ Grows w w' := by
  unfold GiveWr at h
  rcases hz with ⟨h1, rfl⟩ | ⟨h1, h2, rfl⟩
  · rwa [if_pos h1] at h
  · rwa [if_neg (by rw [h1]; decide), if_pos h2] at h
theorem gtr_yes {w w' : World} {po : Bool} {r R : Int} {P : Nat → List Nat} {V : Nat → Nat} {e : Ending} (h : GiveTr w po r R P V e w') (h1 : po = true) (h2 : r = 0) : ∃ A c rs, e = .returned (.tuple #[.slice A rs.length c, .int .i64 0]) ∧ RtsAt w' w.heap.size A c rs (pthK (fun j => (P j, V j)) (R.toNat + 1)) ∧ Grows w w' := by
  unfold GiveTr at h
  rwa [if_neg (by rw [h1]; decide), if_neg (by omega)] at h
theorem gws_yes {w w' : World} {po : Bool} {r : Int} {n K : Nat} {why : Nat → List Nat → Int} {F : Nat → List Nat × Nat} {e : Ending} (h : GiveWs w po r n K why F e w') (h1 : po = true) (h2 : r = 0) : ∃ A c rs, e = .returned (.tuple #[.slice A rs.length c, .int .i64 0]) ∧ RtsAt w' w.heap.size A c rs ((keepW why K n).map F) ∧ Grows w w' := by
  unfold GiveWs at h
  rwa [if_neg (by rw [h1]; decide), if_neg (by omega)] at h
theorem gwr_yes {w w' : World} {po : Bool} {r : Int} {n K : Nat} {why : Nat → List Nat → Int} {F : Nat → List Nat × Nat} {e : Ending} (h : GiveWr w po r n K why F e w') (h1 : po = true) (h2 : r = 0) : ∃ A c rs, e = .returned (.tuple #[.slice A rs.length c, .int .i64 0]) ∧ RtsRd w' A rs ((keepW why K n).map F) ∧ Grows w w' := by
  unfold GiveWr at h
  rwa [if_neg (by rw [h1]; decide), if_neg (by omega)] at h
set_option maxRecDepth 40000 in
set_option maxHeartbeats 8000000 in
theorem penWaysW (N : Int) (A : Option Addr) (n c : Nat) (E : List Edg) (s t : Int) (o : PO) (w : World) (_ : I64 N) (_ : n ≤ c) (h : Rd w A 3 n (esCells E)) (_ : ∀ k, k < n → edgOk (ge E k)) (_ : I64 s) (_ : I64 t) (ho : poIn o) :
    Calls Tryz.prog 8 #[.agg #[.int .i64 N, .slice A n c], .int .i64 s, .int .i64 t, poV o] w fun e w' => e = .returned (.bool true) ∧ Grows w w' := by
  have C5 := hide (fun (W : World) => alive32 W)
  have C6 := hide (fun (W : World) => lLight32 N A n c o W)
  have C7 := hide (fun (W : World) => law32Of o W)
  obtain ⟨hk1, hk2, ⟨u1, u1'⟩, ⟨u2, u2'⟩, ⟨u3, u3'⟩, ⟨u4, u4'⟩⟩ := ho
  have C8 := hide (fun (W : World) => penRight o W)
  have C9 := hide (fun (W : World) => r32Right o u1 u2 u3 u4 W)
  obtain rfl : E.length = n := h.elen
  cases hl : lightP N E.length o.r with
  | false =>
    rw [hl] at C6
    generalize E.length = n at *
    clear h hl C8 C9 C7
    obtain ⟨ok_, or_, f1, f2, a1, a2, e1, e2, g1, g2⟩ := o
    unfold poV at C6 ⊢
    dsimp only at C6 ⊢
    go_enter Tryz.func8, Tryz.ntmps8
    go_wp2_with (first | (go_at_call 33; refine (C6.out _).mono ?_; rintro e w' ⟨rfl, hg⟩; (first | obtain ⟨x, rfl⟩ := Grows.later2 hg | obtain ⟨x, rfl⟩ := Grows.later hg); clear hg) | (go_at_call 34; refine (C5.out _).mono ?_; rintro e w' ⟨rfl, hg⟩; (first | obtain ⟨x, rfl⟩ := Grows.later2 hg | obtain ⟨x, rfl⟩ := Grows.later hg); clear hg))
    go_ret
    exact ⟨rfl, GG⟩
  | true =>
    rw [hl] at C6
    have hlt := lightP_of hl
    clear hl
    obtain ⟨WW, P, V, r, ts, hA⟩ := pen_all N s t A c E o w h (by omega) (by omega) u1 u2 u3 u4 u2'
    by_cases hno : poB o = false ∨ r ≠ 0
    · obtain ⟨z, hz⟩ : ∃ z : Int, (poB o = false ∧ z = 1) ∨ (poB o = true ∧ r ≠ 0 ∧ z = r) := by
        cases hpo : poB o with
        | false => exact ⟨1, .inl ⟨rfl, rfl⟩⟩
        | true => exact ⟨r, .inr ⟨rfl, by rcases hno with e | e; · rw [hpo] at e; cases e
                                          · exact e, rfl⟩⟩
      have C1 := hide (fun (X : World) (g : Grows w X) => (hA.ways X g).mono (fun e w' hh => gws_no hh hz))
      have C2 := hide (fun (X : World) (g : Grows w X) => (hA.ways2 X g).mono (fun e w' hh => gwr_no hh hz))
      have C3 := hide (fun (X : World) (g : Grows w X) => (hA.tries X g).mono (fun e w' hh => gtr_no hh hz))
      have C4 := hide (fun (X : World) (g : Grows w X) => (hA.tries2 X g).mono (fun e w' hh => gtr_no hh hz))
      have C0 := hide (fun (W : World) => show Calls Tryz.prog 21 #[.slice none 0 0, .slice none 0 0] W fun e w' => e = .returned (.bool true) ∧ Grows W w' from r8RoutesEq 0 0 none none 0 0 [] [] [] W (RtsAt.nil _ _) (RtsAt.nil _ _) (by simp) (by simp))
      clear hno hz hA hlt h
      generalize E.length = n at *
      generalize poB o = po at *
      clear u1 u1' u2 u2' u3 u3' u4 u4' hk1 hk2
      obtain ⟨ok_, or_, f1, f2, a1, a2, e1, e2, g1, g2⟩ := o
      unfold poV at C1 C2 C3 C4 C6 C7 C8 C9 ⊢
      dsimp only at C1 C2 C3 C4 C6 C7 C8 C9 ⊢
      cases po with
      | false =>
        go_enter Tryz.func8, Tryz.ntmps8
        go_upto_region 1 with fail
        obtain ⟨w0, hw0⟩ : ∃ W, W = (w.alloc (.cells #[.int .i64 N, .slice A n c] 35)).alloc (.cells #[.int .i64 ok_, .int .i64 or_, .int .u64 f1, .int .u64 f2, .int .u64 a1, .int .u64 a2, .int .u64 e1, .int .u64 e2, .int .u64 g1, .int .u64 g2] 73) := ⟨_, rfl⟩
        obtain ⟨hg0, a4, a7⟩ := box2 w [.int .i64 N, .slice A n c] [.int .i64 ok_, .int .i64 or_, .int .u64 f1, .int .u64 f2, .int .u64 a1, .int .u64 a2, .int .u64 e1, .int .u64 e2, .int .u64 g1, .int .u64 g2] 35 73
        replace hg0 : Grows w w0 := by rw [hw0]; exact hg0
        replace a4 : Arr w0 w.heap.size 35 [.int .i64 N, .slice A n c] := by rw [hw0]; exact a4
        replace a7 : Arr w0 (w.heap.size + 1) 73 [.int .i64 ok_, .int .i64 or_, .int .u64 f1, .int .u64 f2, .int .u64 a1, .int .u64 a2, .int .u64 e1, .int .u64 e2, .int .u64 g1, .int .u64 g2] := by rw [hw0]; exact a7
        rw [← hw0]
        clear hw0
        generalize w.heap.size + 1 = b7 at *
        obtain ⟨b4, hb4⟩ : ∃ b, b = w.heap.size := ⟨_, rfl⟩
        rw [← hb4] at a4 ⊢
        clear hb4
        have m6 := a7.mine 6 rfl
        have m7 := a7.mine 7 rfl
        have m8 := a7.mine 8 rfl
        have m9 := a7.mine 9 rfl
        go_wp2_with (first | (go_at_call 33; refine (C6.out _).mono ?_; rintro e w' ⟨rfl, hg⟩; (first | obtain ⟨x, rfl⟩ := Grows.later2 hg | obtain ⟨x, rfl⟩ := Grows.later hg); clear hg) | (go_at_call 35; refine (C1.out _ (hg0.trans GG)).mono ?_; rintro e w' ⟨rfl, hg⟩; (first | obtain ⟨x, rfl⟩ := Grows.later2 hg | obtain ⟨x, rfl⟩ := Grows.later hg); clear hg))
        ((first | refine wp_region_gen (by kernel_rfl) (by kernel_rfl) ?_); (repeat' ((first | refine gLex_val0 rfl (by kernel_rfl) (fun K hK => ?_) | refine gLex_undef rfl rfl rfl (by kernel_rfl) (fun K hK => ?_) | (refine gLex_ask rfl rfl rfl ?_; first | (apply gAsk_yes; kernel_rfl; intro K hK) | ((first | apply gAsk_no1 | apply gAsk_no2); kernel_rfl; intro K hK) | (apply gAsk_part; kernel_rfl; all_goals (intro h K hK; (try simp only [Bool.not_true, Bool.not_false, decide_eq_true_eq, decide_eq_false_iff_not] at h); try (exfalso; first | contradiction | omega))))) <;> (go_simp; (try (simp only [↓IntWalk.iteOmega]; try go_simp)); (try simp (disch := omega) only [IntWalk.i64_in, IntWalk.u64_in]); first | (refine hK _ ?_; clear hK K) | (apply Exists.intro; refine ⟨fun x => ?_, hK _ ?_⟩; (first | (go_at_call 37; exact C7.out _) | (go_at_call 36; exact C2.out _ (hg0.trans GG))); clear hK K)))); all_goals ((apply gLex_end); intro y1))
        go_wp2_with (first | (go_at_call 38; refine (C3.out _ (hg0.trans GG)).mono ?_; rintro e w' ⟨rfl, hg⟩; (first | obtain ⟨x, rfl⟩ := Grows.later2 hg | obtain ⟨x, rfl⟩ := Grows.later hg); clear hg))
        ((first | refine wp_region_gen (by kernel_rfl) (by kernel_rfl) ?_); (repeat' ((first | refine gLex_val0 rfl (by kernel_rfl) (fun K hK => ?_) | refine gLex_undef rfl rfl rfl (by kernel_rfl) (fun K hK => ?_) | (refine gLex_ask rfl rfl rfl ?_; first | (apply gAsk_yes; kernel_rfl; intro K hK) | ((first | apply gAsk_no1 | apply gAsk_no2); kernel_rfl; intro K hK) | (apply gAsk_part; kernel_rfl; all_goals (intro h K hK; (try simp only [Bool.not_true, Bool.not_false, decide_eq_true_eq, decide_eq_false_iff_not] at h); try (exfalso; first | contradiction | omega))))) <;> (go_simp; (try (simp only [↓IntWalk.iteOmega]; try go_simp)); (try simp (disch := omega) only [IntWalk.i64_in, IntWalk.u64_in]); first | (refine hK _ ?_; clear hK K) | (apply Exists.intro; refine ⟨fun x => ?_, hK _ ?_⟩; (first | (go_at_call 37; exact C7.out _) | (go_at_call 39; exact C4.out _ (hg0.trans GG))); clear hK K)))); all_goals ((apply gLex_end); intro y2))
        go_wp2_with fail
        ((first | refine wp_region_gen (by kernel_rfl) (by kernel_rfl) ?_); (repeat' ((first | refine gLex_val0 rfl (by kernel_rfl) (fun K hK => ?_) | refine gLex_undef rfl rfl rfl (by kernel_rfl) (fun K hK => ?_) | (refine gLex_ask rfl rfl rfl ?_; first | (apply gAsk_yes; kernel_rfl; intro K hK) | ((first | apply gAsk_no1 | apply gAsk_no2); kernel_rfl; intro K hK) | (apply gAsk_part; kernel_rfl; all_goals (intro h K hK; (try simp only [Bool.not_true, Bool.not_false, decide_eq_true_eq, decide_eq_false_iff_not] at h); try (exfalso; first | contradiction | omega))))) <;> (go_simp; (try (simp only [↓IntWalk.iteOmega]; try go_simp)); (try simp (disch := omega) only [IntWalk.i64_in, IntWalk.u64_in]); first | (refine hK _ ?_; clear hK K) | (apply Exists.intro; refine ⟨fun x => ?_, hK _ ?_⟩; (first | (go_at_call 21; exact C0.out _) | (go_at_call 37; exact C7.out _) | (go_at_call 40; exact C8.out _) | (go_at_call 41; exact C9.out _) | (go_at_call 34; exact C5.out _)); clear hK K)))); all_goals ((apply gLex_end); intro y3))
        go_wp2_with fail
        go_ret
        exact ⟨rfl, hg0.trans GG⟩
      | true =>
        go_enter Tryz.func8, Tryz.ntmps8
        go_upto_region 1 with fail
        obtain ⟨w0, hw0⟩ : ∃ W, W = (w.alloc (.cells #[.int .i64 N, .slice A n c] 35)).alloc (.cells #[.int .i64 ok_, .int .i64 or_, .int .u64 f1, .int .u64 f2, .int .u64 a1, .int .u64 a2, .int .u64 e1, .int .u64 e2, .int .u64 g1, .int .u64 g2] 73) := ⟨_, rfl⟩
        obtain ⟨hg0, a4, a7⟩ := box2 w [.int .i64 N, .slice A n c] [.int .i64 ok_, .int .i64 or_, .int .u64 f1, .int .u64 f2, .int .u64 a1, .int .u64 a2, .int .u64 e1, .int .u64 e2, .int .u64 g1, .int .u64 g2] 35 73
        replace hg0 : Grows w w0 := by rw [hw0]; exact hg0
        replace a4 : Arr w0 w.heap.size 35 [.int .i64 N, .slice A n c] := by rw [hw0]; exact a4
        replace a7 : Arr w0 (w.heap.size + 1) 73 [.int .i64 ok_, .int .i64 or_, .int .u64 f1, .int .u64 f2, .int .u64 a1, .int .u64 a2, .int .u64 e1, .int .u64 e2, .int .u64 g1, .int .u64 g2] := by rw [hw0]; exact a7
        rw [← hw0]
        clear hw0
        generalize w.heap.size + 1 = b7 at *
        obtain ⟨b4, hb4⟩ : ∃ b, b = w.heap.size := ⟨_, rfl⟩
        rw [← hb4] at a4 ⊢
        clear hb4
        have m6 := a7.mine 6 rfl
        have m7 := a7.mine 7 rfl
        have m8 := a7.mine 8 rfl
        have m9 := a7.mine 9 rfl
        go_wp2_with (first | (go_at_call 33; refine (C6.out _).mono ?_; rintro e w' ⟨rfl, hg⟩; (first | obtain ⟨x, rfl⟩ := Grows.later2 hg | obtain ⟨x, rfl⟩ := Grows.later hg); clear hg) | (go_at_call 35; refine (C1.out _ (hg0.trans GG)).mono ?_; rintro e w' ⟨rfl, hg⟩; (first | obtain ⟨x, rfl⟩ := Grows.later2 hg | obtain ⟨x, rfl⟩ := Grows.later hg); clear hg))
        ((first | refine wp_region_gen (by kernel_rfl) (by kernel_rfl) ?_); (repeat' ((first | refine gLex_val0 rfl (by kernel_rfl) (fun K hK => ?_) | refine gLex_undef rfl rfl rfl (by kernel_rfl) (fun K hK => ?_) | (refine gLex_ask rfl rfl rfl ?_; first | (apply gAsk_yes; kernel_rfl; intro K hK) | ((first | apply gAsk_no1 | apply gAsk_no2); kernel_rfl; intro K hK) | (apply gAsk_part; kernel_rfl; all_goals (intro h K hK; (try simp only [Bool.not_true, Bool.not_false, decide_eq_true_eq, decide_eq_false_iff_not] at h); try (exfalso; first | contradiction | omega))))) <;> (go_simp; (try (simp only [↓IntWalk.iteOmega]; try go_simp)); (try simp (disch := omega) only [IntWalk.i64_in, IntWalk.u64_in]); first | (refine hK _ ?_; clear hK K) | (apply Exists.intro; refine ⟨fun x => ?_, hK _ ?_⟩; (first | (go_at_call 37; exact C7.out _) | (go_at_call 36; exact C2.out _ (hg0.trans GG))); clear hK K)))); all_goals ((apply gLex_end); intro y1))
        go_wp2_with (first | (go_at_call 38; refine (C3.out _ (hg0.trans GG)).mono ?_; rintro e w' ⟨rfl, hg⟩; (first | obtain ⟨x, rfl⟩ := Grows.later2 hg | obtain ⟨x, rfl⟩ := Grows.later hg); clear hg))
        ((first | refine wp_region_gen (by kernel_rfl) (by kernel_rfl) ?_); (repeat' ((first | refine gLex_val0 rfl (by kernel_rfl) (fun K hK => ?_) | refine gLex_undef rfl rfl rfl (by kernel_rfl) (fun K hK => ?_) | (refine gLex_ask rfl rfl rfl ?_; first | (apply gAsk_yes; kernel_rfl; intro K hK) | ((first | apply gAsk_no1 | apply gAsk_no2); kernel_rfl; intro K hK) | (apply gAsk_part; kernel_rfl; all_goals (intro h K hK; (try simp only [Bool.not_true, Bool.not_false, decide_eq_true_eq, decide_eq_false_iff_not] at h); try (exfalso; first | contradiction | omega))))) <;> (go_simp; (try (simp only [↓IntWalk.iteOmega]; try go_simp)); (try simp (disch := omega) only [IntWalk.i64_in, IntWalk.u64_in]); first | (refine hK _ ?_; clear hK K) | (apply Exists.intro; refine ⟨fun x => ?_, hK _ ?_⟩; (first | (go_at_call 37; exact C7.out _) | (go_at_call 39; exact C4.out _ (hg0.trans GG))); clear hK K)))); all_goals ((apply gLex_end); intro y2))
        go_wp2_with fail
        ((first | refine wp_region_gen (by kernel_rfl) (by kernel_rfl) ?_); (repeat' ((first | refine gLex_val0 rfl (by kernel_rfl) (fun K hK => ?_) | refine gLex_undef rfl rfl rfl (by kernel_rfl) (fun K hK => ?_) | (refine gLex_ask rfl rfl rfl ?_; first | (apply gAsk_yes; kernel_rfl; intro K hK) | ((first | apply gAsk_no1 | apply gAsk_no2); kernel_rfl; intro K hK) | (apply gAsk_part; kernel_rfl; all_goals (intro h K hK; (try simp only [Bool.not_true, Bool.not_false, decide_eq_true_eq, decide_eq_false_iff_not] at h); try (exfalso; first | contradiction | omega))))) <;> (go_simp; (try (simp only [↓IntWalk.iteOmega]; try go_simp)); (try simp (disch := omega) only [IntWalk.i64_in, IntWalk.u64_in]); first | (refine hK _ ?_; clear hK K) | (apply Exists.intro; refine ⟨fun x => ?_, hK _ ?_⟩; (first | (go_at_call 21; exact C0.out _) | (go_at_call 37; exact C7.out _) | (go_at_call 40; exact C8.out _) | (go_at_call 41; exact C9.out _) | (go_at_call 34; exact C5.out _)); clear hK K)))); all_goals ((apply gLex_end); intro y3))
        go_wp2_with fail
        go_ret
        exact ⟨rfl, hg0.trans GG⟩
    · have hpo : poB o = true := by cases e : poB o with
        | false => exact absurd (.inl e) hno
        | true => rfl
      have hr0 : r = 0 := by
        by_cases hr : r = 0
        · exact hr
        · exact absurd (.inr hr) hno
      have hR := poB_k hpo
      have hbl := hA.tr.below (show N ≤ 1000 ∨ 4096 < N by omega)
      have hkl := keepW_len (whyK N s t E o P (V 0) r ts) o.k.toNat (o.r.toNat + 1)
      have hps : ∀ p ∈ (keepW (whyK N s t E o P (V 0) r ts) o.k.toNat (o.r.toNat + 1)).map (fun j => (P j, V j)), p.1.length ≤ 1000000 := fun p hp => by
        obtain ⟨j, _, rfl⟩ := List.mem_map.1 hp
        have := hbl j
        show (P j).length ≤ _
        omega
      have hps2 : ∀ p ∈ pthK (fun j => (P j, V j)) (o.r.toNat + 1), p.1.length ≤ 1000000 := fun p hp => by
        unfold pthK at hp
        obtain ⟨j, _, rfl⟩ := List.mem_map.1 hp
        have := hbl j
        show (P j).length ≤ _
        omega
      have hln : ((keepW (whyK N s t E o P (V 0) r ts) o.k.toNat (o.r.toNat + 1)).map (fun j => (P j, V j))).length ≤ 1000000 := by rw [List.length_map]; omega
      have hln2 : (pthK (fun j => (P j, V j)) (o.r.toNat + 1)).length ≤ 1000000 := by simp [pthK]; omega
      clear hno hlt h hbl hkl hR
      have C1 := hide (fun (X : World) (g : Grows w X) => show Calls Tryz.prog 35 #[.agg #[.int .i64 N, .slice A E.length c], .int .i64 s, .int .i64 t, poV o] X fun e w' => ∃ A c rs, e = .returned (.tuple #[.slice A rs.length c, .int .i64 0]) ∧ RtsOk w' A rs ((keepW (whyK N s t E o P (V 0) r ts) o.k.toNat (o.r.toNat + 1)).map (fun j => (P j, V j))) ∧ Grows X w' from (hA.ways X g).mono (fun e w' hh => by
        obtain ⟨A1, c1, rs1, e1, h1, hg⟩ := gws_yes hh hpo hr0
        exact ⟨A1, c1, rs1, e1, ⟨h1.toRd, hln, hps⟩, hg⟩))
      have C2 := hide (fun (X : World) (g : Grows w X) => show Calls Tryz.prog 36 #[.agg #[.int .i64 N, .slice A E.length c], .int .i64 s, .int .i64 t, poV o] X fun e w' => ∃ A c rs, e = .returned (.tuple #[.slice A rs.length c, .int .i64 0]) ∧ RtsOk w' A rs ((keepW (whyK N s t E o P (V 0) r ts) o.k.toNat (o.r.toNat + 1)).map (fun j => (P j, V j))) ∧ Grows X w' from (hA.ways2 X g).mono (fun e w' hh => by
        obtain ⟨A1, c1, rs1, e1, h1, hg⟩ := gwr_yes hh hpo hr0
        exact ⟨A1, c1, rs1, e1, ⟨h1, hln, hps⟩, hg⟩))
      have C3 := hide (fun (X : World) (g : Grows w X) => show Calls Tryz.prog 38 #[.agg #[.int .i64 N, .slice A E.length c], .int .i64 s, .int .i64 t, poV o] X fun e w' => ∃ A c rs, e = .returned (.tuple #[.slice A rs.length c, .int .i64 0]) ∧ RtsOk w' A rs (pthK (fun j => (P j, V j)) (o.r.toNat + 1)) ∧ Grows X w' from (hA.tries X g).mono (fun e w' hh => by
        obtain ⟨A1, c1, rs1, e1, h1, hg⟩ := gtr_yes hh hpo hr0
        exact ⟨A1, c1, rs1, e1, ⟨h1.toRd, hln2, hps2⟩, hg⟩))
      have C4 := hide (fun (X : World) (g : Grows w X) => show Calls Tryz.prog 39 #[.agg #[.int .i64 N, .slice A E.length c], .int .i64 s, .int .i64 t, poV o] X fun e w' => ∃ A c rs, e = .returned (.tuple #[.slice A rs.length c, .int .i64 0]) ∧ RtsOk w' A rs (pthK (fun j => (P j, V j)) (o.r.toNat + 1)) ∧ Grows X w' from (hA.tries2 X g).mono (fun e w' hh => by
        obtain ⟨A1, c1, rs1, e1, h1, hg⟩ := gtr_yes hh hpo hr0
        exact ⟨A1, c1, rs1, e1, ⟨h1.toRd, hln2, hps2⟩, hg⟩))
      clear hA
      generalize (keepW (whyK N s t E o P (V 0) r ts) o.k.toNat (o.r.toNat + 1)).map (fun j => (P j, V j)) = ps at *
      generalize pthK (fun j => (P j, V j)) (o.r.toNat + 1) = ps2 at *
      rw [hpo] at C8 C9
      clear hpo hr0 hps hps2 hln hln2
      generalize E.length = n at *
      clear u1 u1' u2 u2' u3 u3' u4 u4' hk1 hk2
      obtain ⟨ok_, or_, f1, f2, a1, a2, e1, e2, g1, g2⟩ := o
      unfold poV at C1 C2 C3 C4 C6 C7 C8 C9 ⊢
      dsimp only at C1 C2 C3 C4 C6 C7 C8 C9 ⊢
      go_enter Tryz.func8, Tryz.ntmps8
      go_upto_region 1 with fail
      obtain ⟨w0, hw0⟩ : ∃ W, W = (w.alloc (.cells #[.int .i64 N, .slice A n c] 35)).alloc (.cells #[.int .i64 ok_, .int .i64 or_, .int .u64 f1, .int .u64 f2, .int .u64 a1, .int .u64 a2, .int .u64 e1, .int .u64 e2, .int .u64 g1, .int .u64 g2] 73) := ⟨_, rfl⟩
      obtain ⟨hg0, a4, a7⟩ := box2 w [.int .i64 N, .slice A n c] [.int .i64 ok_, .int .i64 or_, .int .u64 f1, .int .u64 f2, .int .u64 a1, .int .u64 a2, .int .u64 e1, .int .u64 e2, .int .u64 g1, .int .u64 g2] 35 73
      replace hg0 : Grows w w0 := by rw [hw0]; exact hg0
      replace a4 : Arr w0 w.heap.size 35 [.int .i64 N, .slice A n c] := by rw [hw0]; exact a4
      replace a7 : Arr w0 (w.heap.size + 1) 73 [.int .i64 ok_, .int .i64 or_, .int .u64 f1, .int .u64 f2, .int .u64 a1, .int .u64 a2, .int .u64 e1, .int .u64 e2, .int .u64 g1, .int .u64 g2] := by rw [hw0]; exact a7
      rw [← hw0]
      clear hw0
      generalize w.heap.size + 1 = b7 at *
      obtain ⟨b4, hb4⟩ : ∃ b, b = w.heap.size := ⟨_, rfl⟩
      rw [← hb4] at a4 ⊢
      clear hb4
      have m6 := a7.mine 6 rfl
      have m7 := a7.mine 7 rfl
      have m8 := a7.mine 8 rfl
      have m9 := a7.mine 9 rfl
      go_upto_region 4 with (first
        | (go_at_call 33; refine (C6.out _).mono ?_; rintro e w' ⟨rfl, hg⟩; obtain ⟨x1, rfl⟩ := hg.later; clear hg)
        | (go_at_call 35; refine (C1.out _ (hg0.trans GG)).mono ?_; rintro e w' ⟨A1, c1, rs1, rfl, ho1, hg⟩; obtain ⟨x2, rfl⟩ := hg.later; have HO1 := hide ho1; clear hg ho1))
      refine wp_region_gen (by kernel_rfl) (by kernel_rfl) ?_
      (repeat' ((first | refine gLex_val0 rfl (by kernel_rfl) (fun K hK => ?_) | refine gLex_undef rfl rfl rfl (by kernel_rfl) (fun K hK => ?_) | (refine gLex_ask rfl rfl rfl ?_; first | (apply gAsk_yes; kernel_rfl; intro K hK) | ((first | apply gAsk_no1 | apply gAsk_no2); kernel_rfl; intro K hK))) <;> (go_simp; (try (simp only [↓IntWalk.iteOmega]; try go_simp)); (try simp (disch := omega) only [IntWalk.i64_in, IntWalk.u64_in]); first | (refine hK _ ?_; clear hK K) | (apply Exists.intro; refine ⟨fun x => ?_, hK _ ?_⟩; (first | (go_at_call 37; exact C7.out _)); clear hK K))))
      refine gLex_propG (by kernel_rfl) (by kernel_rfl) rfl (by simp) (RwP ps) (RwP.lasts _) (fun x => by
        go_simp
        refine (C2.out _ (hg0.trans GG)).mono ?_
        rintro e w' ⟨A9, c9, rs9, rfl, ho, hg⟩
        exact ⟨_, rfl, hg, A9, c9, rs9, rfl, ho⟩) ?_
      refine gLex_dep (t0 := 36) (by kernel_rfl) (by kernel_rfl) rfl (by simp) rfl (by simp) (RwP ps) (RwP.lasts _) (fun x u hu => by
        obtain ⟨A9, c9, rs9, rfl, hh⟩ := hu
        go_simp
        all_goals first | exact ⟨Grows.refl _, A9, c9, rs9, rfl, hh⟩ | exact ⟨A9, c9, rs9, rfl, hh⟩) ?_
      refine gLex_dep (t0 := 30) (by kernel_rfl) (by kernel_rfl) rfl (by simp) rfl (by simp) (SlP ps) (SlP.lasts _) (fun x u hu => by
        obtain ⟨A9, c9, rs9, rfl, hh⟩ := hu
        go_simp
        all_goals first | exact ⟨Grows.refl _, A9, c9, rs9, rfl, hh⟩ | exact ⟨A9, c9, rs9, rfl, hh⟩) ?_
      refine gLex_depV (t0 := 30) (by kernel_rfl) (by kernel_rfl) rfl (by simp) (.int .i64 0) (fun x u hu => by
        obtain ⟨A9, c9, rs9, rfl, hh⟩ := hu
        go_simp
        all_goals first | exact ⟨Grows.refl _, rfl⟩ | exact Grows.refl _ | rfl) ?_
      simp only [Act.put, List.setIfInBounds_toArray, List.set_cons_zero, List.set_cons_succ]
      refine gLex_dep (t0 := 37) (by kernel_rfl) (by kernel_rfl) rfl (by simp) rfl (by simp) (SlP ps) (SlP.lasts _) (fun x u hu => by
        obtain ⟨A9, c9, rs9, rfl, hh⟩ := hu
        go_simp
        all_goals first | exact ⟨Grows.refl _, A9, c9, rs9, rfl, hh⟩ | exact ⟨A9, c9, rs9, rfl, hh⟩) ?_
      (repeat' ((first | refine gLex_val0 rfl (by kernel_rfl) (fun K hK => ?_) | refine gLex_undef rfl rfl rfl (by kernel_rfl) (fun K hK => ?_) | (refine gLex_ask rfl rfl rfl ?_; first | (apply gAsk_yes; kernel_rfl; intro K hK) | ((first | apply gAsk_no1 | apply gAsk_no2); kernel_rfl; intro K hK))) <;> (go_simp; (try (simp only [↓IntWalk.iteOmega]; try go_simp)); (try simp (disch := omega) only [IntWalk.i64_in, IntWalk.u64_in]); refine hK _ ?_; clear hK K)))
      refine gLex_endB (fun x3 => ?_)
      refine AtB.pop rfl (by simp) (fun z1 hz1 => ?_)
      obtain ⟨A2, c2, rs2, rfl, ho2⟩ := hz1
      have HO2 := hide ho2
      clear ho2
      refine AtB.pop rfl (by simp [Act.put]) (fun z2 _ => ?_)
      refine AtB.pop rfl (by simp [Act.put]) (fun z3 _ => ?_)
      refine AtB.pop rfl (by simp [Act.put]) (fun z4 _ => ?_)
      refine AtB.base ?_
      simp only [Act.put, List.setIfInBounds_toArray, List.set_cons_zero, List.set_cons_succ]
      go_upto_region 6 with (go_at_call 38; refine (C3.out _ (hg0.trans GG)).mono ?_; rintro e w' ⟨A3, c3, rs3, rfl, ho3, hg⟩; obtain ⟨x4, rfl⟩ := hg.later; have HO3 := hide ho3; clear hg ho3)
      refine wp_region_gen (by kernel_rfl) (by kernel_rfl) ?_
      (repeat' ((first | refine gLex_val0 rfl (by kernel_rfl) (fun K hK => ?_) | refine gLex_undef rfl rfl rfl (by kernel_rfl) (fun K hK => ?_) | (refine gLex_ask rfl rfl rfl ?_; first | (apply gAsk_yes; kernel_rfl; intro K hK) | ((first | apply gAsk_no1 | apply gAsk_no2); kernel_rfl; intro K hK))) <;> (go_simp; (try (simp only [↓IntWalk.iteOmega]; try go_simp)); (try simp (disch := omega) only [IntWalk.i64_in, IntWalk.u64_in]); first | (refine hK _ ?_; clear hK K) | (apply Exists.intro; refine ⟨fun x => ?_, hK _ ?_⟩; (first | (go_at_call 37; exact C7.out _)); clear hK K))))
      refine gLex_propG (by kernel_rfl) (by kernel_rfl) rfl (by simp) (RwP ps2) (RwP.lasts _) (fun x => by
        go_simp
        refine (C4.out _ (hg0.trans GG)).mono ?_
        rintro e w' ⟨A9, c9, rs9, rfl, ho, hg⟩
        exact ⟨_, rfl, hg, A9, c9, rs9, rfl, ho⟩) ?_
      refine gLex_dep (t0 := 53) (by kernel_rfl) (by kernel_rfl) rfl (by simp) rfl (by simp) (RwP ps2) (RwP.lasts _) (fun x u hu => by
        obtain ⟨A9, c9, rs9, rfl, hh⟩ := hu
        go_simp
        all_goals first | exact ⟨Grows.refl _, A9, c9, rs9, rfl, hh⟩ | exact ⟨A9, c9, rs9, rfl, hh⟩) ?_
      refine gLex_dep (t0 := 47) (by kernel_rfl) (by kernel_rfl) rfl (by simp) rfl (by simp) (SlP ps2) (SlP.lasts _) (fun x u hu => by
        obtain ⟨A9, c9, rs9, rfl, hh⟩ := hu
        go_simp
        all_goals first | exact ⟨Grows.refl _, A9, c9, rs9, rfl, hh⟩ | exact ⟨A9, c9, rs9, rfl, hh⟩) ?_
      refine gLex_depV (t0 := 47) (by kernel_rfl) (by kernel_rfl) rfl (by simp) (.int .i64 0) (fun x u hu => by
        obtain ⟨A9, c9, rs9, rfl, hh⟩ := hu
        go_simp
        all_goals first | exact ⟨Grows.refl _, rfl⟩ | exact Grows.refl _ | rfl) ?_
      simp only [Act.put, List.setIfInBounds_toArray, List.set_cons_zero, List.set_cons_succ]
      refine gLex_dep (t0 := 54) (by kernel_rfl) (by kernel_rfl) rfl (by simp) rfl (by simp) (SlP ps2) (SlP.lasts _) (fun x u hu => by
        obtain ⟨A9, c9, rs9, rfl, hh⟩ := hu
        go_simp
        all_goals first | exact ⟨Grows.refl _, A9, c9, rs9, rfl, hh⟩ | exact ⟨A9, c9, rs9, rfl, hh⟩) ?_
      (repeat' ((first | refine gLex_val0 rfl (by kernel_rfl) (fun K hK => ?_) | refine gLex_undef rfl rfl rfl (by kernel_rfl) (fun K hK => ?_) | (refine gLex_ask rfl rfl rfl ?_; first | (apply gAsk_yes; kernel_rfl; intro K hK) | ((first | apply gAsk_no1 | apply gAsk_no2); kernel_rfl; intro K hK))) <;> (go_simp; (try (simp only [↓IntWalk.iteOmega]; try go_simp)); (try simp (disch := omega) only [IntWalk.i64_in, IntWalk.u64_in]); refine hK _ ?_; clear hK K)))
      refine gLex_endB (fun x5 => ?_)
      refine AtB.pop rfl (by simp) (fun z1 hz1 => ?_)
      obtain ⟨A4, c4, rs4, rfl, ho4⟩ := hz1
      have HO4 := hide ho4
      clear ho4
      refine AtB.pop rfl (by simp [Act.put]) (fun z2 _ => ?_)
      refine AtB.pop rfl (by simp [Act.put]) (fun z3 _ => ?_)
      refine AtB.pop rfl (by simp [Act.put]) (fun z4 _ => ?_)
      refine AtB.base ?_
      simp only [Act.put, List.setIfInBounds_toArray, List.set_cons_zero, List.set_cons_succ]
      go_wp2_with fail
      ((first | refine wp_region_gen (by kernel_rfl) (by kernel_rfl) ?_); (repeat' ((first | refine gLex_val0 rfl (by kernel_rfl) (fun K hK => ?_) | refine gLex_undef rfl rfl rfl (by kernel_rfl) (fun K hK => ?_) | (refine gLex_ask rfl rfl rfl ?_; first | (apply gAsk_yes; kernel_rfl; intro K hK) | ((first | apply gAsk_no1 | apply gAsk_no2); kernel_rfl; intro K hK) | (apply gAsk_part; kernel_rfl; all_goals (intro h K hK; (try simp only [Bool.not_true, Bool.not_false, decide_eq_true_eq, decide_eq_false_iff_not] at h); try (exfalso; first | contradiction | omega))))) <;> (go_simp; (try (simp only [↓IntWalk.iteOmega]; try go_simp)); (try simp (disch := omega) only [IntWalk.i64_in, IntWalk.u64_in]); first | (refine hK _ ?_; clear hK K) | (apply Exists.intro; refine ⟨fun x => ?_, hK _ ?_⟩; (first | (go_at_call 21; exact r8RoutesOk _ _ _ _ _ _ _ _ (by first | exact HO1.out.grows GG | exact HO3.out.grows GG) (by first | exact HO2.out.grows GG | exact HO4.out.grows GG)) | (go_at_call 37; exact C7.out _) | (go_at_call 40; exact C8.out _) | (go_at_call 41; exact C9.out _) | (go_at_call 34; exact C5.out _)); clear hK K)))); all_goals ((apply gLex_end); intro y3))
      go_wp2_with fail
      go_ret
      exact ⟨rfl, hg0.trans GG⟩
end Go.Proofs.YtgplpgldhoelcaaGreat

namespace Go.Proofs.YtgplpgldhoelcaaGreat.lawPenWays
open Go Go.ChangeShapes Go.WideShapes Go.ChangeAt Go.RowKit Go.Proofs.YtgplpgldhoelcaaGreat

theorem own : ownKnob Tryz.prog.godebug = none := by kernel_rfl
theorem laidOut : laidOutB Tryz.prog = true := by kernel_rfl

set_option maxRecDepth 100000 in
theorem lifted (os : Os) (started : os.Started) (H : Type) (enc : TypeId × Value → H) :
    ReturnsInHanded {} Tryz.checked os 8 .any (Rows.penWaysSpec.pre6 enc Tryz.prog Tryz.f8 Rows.penWaysRow.domain false) (Rows.penWaysSpec.post enc Tryz.prog Tryz.f8 false true false false) := by
  refine returnsInHanded_of_change (C := Tryz.checked) own started (by kernel_rfl) Tryz.func8
    (ChangeSpec.witness6 (enc := enc) (C := Tryz.checked) false ⟨#[], #[.agg #[.int .i64 0, .slice none 0 0], .int .i64 0, .int .i64 0, .agg #[.int .i64 0, .int .i64 0, .int .u64 0, .int .u64 0, .int .u64 0, .int .u64 0, .int .u64 0, .int .u64 0, .int .u64 0, .int .u64 0]], []⟩ 8 (by kernel_rfl) (by kernel_rfl) (by kernel_rfl) (by kernel_rfl)) ?_
  intro W base args ds gs before hval0 hW hcnd _
  have hval : ∀ (j : Nat) t v, Tryz.f8.params[j]? = some t → args[j]? = some v → Value.okWide Tryz.prog W .any base t v := hval0
  have hW' := hW
  obtain ⟨p, q, hA0, hV, rfl, hfz, hnd⟩ := hW
  have hA : DataW.TrodAll enc Tryz.prog W 0 (fun _ => true) true Tryz.f8.params.toList args.toList ds p := hA0
  rw [Tryz.params8] at hA hval
  obtain ⟨v0, vs0, d0, ds0, p0, q0, hargs, rfl, rfl, h0, r0⟩ := trodAll_cons hA
  obtain ⟨v1, vs1, d1, ds1, p1, q1, rfl, rfl, rfl, h1, r1⟩ := trodAll_cons r0
  obtain ⟨v2, vs2, d2, ds2, p2, q2, rfl, rfl, rfl, h2, r2⟩ := trodAll_cons r1
  obtain ⟨v3, vs3, d3, ds3, p3, q3, rfl, rfl, rfl, h3, r3⟩ := trodAll_cons r2
  obtain ⟨rfl, rfl, rfl⟩ := trodAll_nil r3
  obtain rfl : args = #[v0, v1, v2, v3] := by cases args; simp_all
  obtain ⟨rfl, rfl⟩ := trodVars_none hV
  have k0 := h0
  have lt0 : ∀ x ∈ p0, x.block < W.heap.size := by obtain ⟨m, hm⟩ := k0; exact DataW.trod_lt m _ _ _ hm
  obtain ⟨a0, A0, n0, c0, z0, rfl, x0, l0, w0, u0⟩ := open_graph Tryz.underlying35 Tryz.underlying3 Tryz.underlying33 Tryz.underlying84 Tryz.underlying3 Tryz.underlying3 Tryz.underlying41 ⟨rfl, rfl, rfl⟩ ⟨by kernel_rfl, by kernel_rfl, by kernel_rfl⟩ (by kernel_rfl) (by kernel_rfl) (by kernel_rfl) (hval 0 35 v0 rfl rfl) h0
  have k1 := h1
  have lt1 : ∀ x ∈ p1, x.block < W.heap.size := by obtain ⟨m, hm⟩ := k1; exact DataW.trod_lt m _ _ _ hm
  obtain ⟨a1, rfl, w1⟩ := open_i64 Tryz.underlying3 (hval 1 3 v1 rfl rfl) h1
  have k2 := h2
  have lt2 : ∀ x ∈ p2, x.block < W.heap.size := by obtain ⟨m, hm⟩ := k2; exact DataW.trod_lt m _ _ _ hm
  obtain ⟨a2, rfl, w2⟩ := open_i64 Tryz.underlying3 (hval 2 3 v2 rfl rfl) h2
  have k3 := h3
  have lt3 : ∀ x ∈ p3, x.block < W.heap.size := by obtain ⟨m, hm⟩ := k3; exact DataW.trod_lt m _ _ _ hm
  obtain ⟨o3, rfl, w3⟩ := open_popt Tryz.underlying73 Tryz.underlying3 Tryz.underlying3 ⟨rfl, rfl, rfl, rfl⟩ Tryz.underlying71 Tryz.underlying41 Tryz.underlying41 ⟨rfl, rfl⟩ ⟨by kernel_rfl, by kernel_rfl⟩ (by kernel_rfl) ⟨rfl, rfl, rfl, rfl, rfl, rfl⟩ ⟨by kernel_rfl, by kernel_rfl⟩ (by kernel_rfl) (hval 3 73 v3 rfl rfl) h3
  clear hA0 hval0
  refine (penWaysW a0 A0 n0 c0 z0 a1 a2 o3 W x0 l0 w0 u0 w1 w2 w3).mono fun e W' ⟨he, bel⟩ => ?_
  subst he
  exact ⟨_, rfl, _, _, _, [], _, [], hW', trodAll_mk1 (shut_bool Tryz.underlying4 _), (trodAll_cons_mk (Below.trod laidOut (by kernel_rfl) (of_decide_eq_true (by kernel_rfl)) k0 bel lt0) (trodAll_cons_mk (Below.trod laidOut (by kernel_rfl) (of_decide_eq_true (by kernel_rfl)) k1 bel lt1) (trodAll_cons_mk (Below.trod laidOut (by kernel_rfl) (of_decide_eq_true (by kernel_rfl)) k2 bel lt2) (trodAll_cons_mk (Below.trod laidOut (by kernel_rfl) (of_decide_eq_true (by kernel_rfl)) k3 bel lt3) trodAll_mk0)))), rfl, Below.frame bel _, fun h => by cases h⟩

theorem over : Rows.penWaysRow.holds Tryz.pinned (OpenSpec.ofChange Rows.penWaysSpec) :=
  OpenClaim.holds_of_wide 8 Tryz.f8 rfl rfl rfl rfl rfl rfl rfl ⟨rfl, rfl, rfl, rfl, rfl⟩ rfl rfl rfl rfl rfl (by kernel_rfl) Tryz.func8 (by kernel_rfl)
    (of_decide_eq_true (by kernel_rfl)) (by unfold Func.isWrapper; first | (rw [if_pos (by decide +kernel)]; kernel_rfl) | (rw [if_neg (by decide +kernel)]; exact ⟨rfl, rfl⟩))
    (fun os started H enc _ => lifted os started H enc)

end Go.Proofs.YtgplpgldhoelcaaGreat.lawPenWays
namespace Go.Proofs.YtgplpgldhoelcaaGreat
theorem penWays_proved : Rows.PenWaysSaid := lawPenWays.over
#print axioms penWays_proved
end Go.Proofs.YtgplpgldhoelcaaGreat

