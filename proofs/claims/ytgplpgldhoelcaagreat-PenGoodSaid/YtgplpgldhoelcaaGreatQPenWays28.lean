/- Contract: rows of routes that are the same, where they are read alone. -/
import Derived.Test.YtgplpgldhoelcaaGreatQPenWays13
import Derived.Test.YtgplpgldhoelcaaGreatQPenWays16
import Derived.Test.YtgplpgldhoelcaaGreatQPenWays25
import Derived.Test.YtgplpgldhoelcaaGreatQPenWays27
namespace Go.Proofs.YtgplpgldhoelcaaGreat
open Go Go.RowKit
theorem RtsRd.len {w : World} {A : Option Addr} {rs : List Rt} {ps : List (List Nat × Nat)} (h : RtsRd w A rs ps) : rs.length = ps.length := by rw [← h.eqs, List.length_map]
theorem RtsRd.at {w : World} {A : Option Addr} {rs : List Rt} {ps : List (List Nat × Nat)} (h : RtsRd w A rs ps) {i : Nat} {r : Rt} (hi : rs[i]? = some r) :
    ∃ g off, A = some ⟨g, off, none⟩ ∧ Holds w ⟨g, off + i * 2, none⟩ (.slice r.1 r.2.2.1.length r.2.1) ∧ Holds w ⟨g, off + i * 2 + 1, none⟩ (.int .u64 (r.2.2.2 : Int)) ∧ Own w 0 3 1 r.1 r.2.2.1.length r.2.1 (nv r.2.2.1) := by
  have hl : 0 < rs.length := by
    have := (List.getElem?_eq_some_iff.1 hi).1
    omega
  obtain ⟨g, off, rfl, hc⟩ := h.rd.2 hl (by omega)
  have h1 := rtFlat_at rs i
  rw [hi] at h1
  exact ⟨g, off, rfl, ⟨hc (i * 2) _ h1.1⟩, ⟨by rw [Nat.add_assoc]; exact hc (i * 2 + 1) _ h1.2⟩, h.rows r (List.mem_of_getElem? hi)⟩
set_option maxRecDepth 20000 in
set_option maxHeartbeats 4000000 in
theorem r8RoutesRd (A A2 : Option Addr) (c c2 : Nat) (rs rs2 : List Rt) (ps : List (List Nat × Nat)) (w : World) (h : RtsRd w A rs ps) (h2 : RtsRd w A2 rs2 ps) (hn : ps.length ≤ 1000000) (hl : ∀ p, p ∈ ps → p.1.length ≤ 1000000) :
    Calls Tryz.prog 21 #[.slice A rs.length c, .slice A2 rs2.length c2] w fun e w' => e = .returned (.bool true) ∧ Grows w w' := by
  have e1 := h.len
  have e2 := h2.len
  have HH := hide h
  have HH2 := hide h2
  have HL := hide hl
  rw [e1, e2]
  have E1 := hide e1
  have E2 := hide e2
  clear h h2 hl e1 e2
  obtain ⟨n, hnn⟩ : ∃ n, ps.length = n := ⟨_, rfl⟩
  rw [hnn] at hn E1 E2 ⊢
  have HN := hide hnn
  clear hnn
  go_enter Tryz.func21, Tryz.ntmps21
  go_wp2_with fail
  go_loopw [5] (fun i wr => ∃ k : Nat, k ≤ n ∧ i = .int .i64 (k : Int) ∧ (∃ x : Later w, wr = x.now)) (fun i _ => n - (intOf i).toNat)
  case atStart => exact ⟨0, by omega, by go_num, ⟨⟨w, Grows.refl w⟩, rfl⟩⟩
  case round =>
    obtain ⟨q, hq, rfl, ⟨x, rfl⟩⟩ := hrel
    by_cases hend : n ≤ q
    · go_wp2_with fail
      go_ret
      exact ⟨rfl, GG⟩
    · obtain ⟨r, hr⟩ : ∃ r, rs[q]? = some r := ⟨rs[q]'(by have := E1.out; omega), by simp⟩
      obtain ⟨r2, hr2⟩ : ∃ r, rs2[q]? = some r := ⟨rs2[q]'(by have := E2.out; omega), by simp⟩
      have hp : ps[q]? = some (r.2.2.1, r.2.2.2) := by rw [← HH.out.eqs, List.getElem?_map, hr]; rfl
      have hp2 : ps[q]? = some (r2.2.2.1, r2.2.2.2) := by rw [← HH2.out.eqs, List.getElem?_map, hr2]; rfl
      rw [hp] at hp2
      injection hp2 with hp2
      injection hp2 with hp3 hp4
      have hlr := HL.out _ (List.mem_of_getElem? hp)
      obtain ⟨g, of1, hA, k1, k2, o1⟩ := HH.out.at hr
      obtain ⟨g2, of2, hA2, m1, m2, o2⟩ := HH2.out.at hr2
      subst hA hA2
      obtain ⟨A8, c8, l8, f8⟩ := r
      obtain ⟨A9, c9, l9, f9⟩ := r2
      simp only at hp3 hp4 k1 k2 m1 m2 o1 o2 hlr
      subst hp3 hp4
      have e9 : nv l8 = (l8.map fun (i : Nat) => (i : Int)).map (.int .i64) := by unfold nv; rw [List.map_map]; rfl
      have C1 := hide (fun (W1 : World) (g : Grows w W1) => show Calls Tryz.prog 24 #[.agg #[.slice A8 l8.length c8, .int .u64 (f8 : Int)], .agg #[.slice A9 l8.length c9, .int .u64 (f8 : Int)]] W1 fun e w' => e = .returned (.int .i64 0) ∧ Grows W1 w' from by
        have h1 := o1.rd.grows g
        have h2 := o2.rd.grows g
        rw [e9] at h1 h2
        exact r8CmpEq A8 l8.length c8 _ A9 c9 f8 W1 h1 hlr h2)
      clear hp hr hr2 o1 o2 e9 hlr
      go_wp2_with fail
      ((first | refine wp_region_gen2 (by kernel_rfl) (by kernel_rfl) ?_ | refine wp_region_gen (by kernel_rfl) (by kernel_rfl) ?_); (repeat' ((first | refine gLex_val0 rfl (by kernel_rfl) (fun K hK => ?_) | refine gLex_undef rfl rfl rfl (by kernel_rfl) (fun K hK => ?_) | (refine gLex_ask rfl rfl rfl ?_; first | (apply gAsk_yes; kernel_rfl; intro K hK) | ((first | apply gAsk_no1 | apply gAsk_no2); kernel_rfl; intro K hK) | (apply gAsk_part; kernel_rfl; all_goals (intro h K hK; (try simp only [Bool.not_true] at h); (try simp only [Bool.not_false] at h); (try simp only [decide_eq_true_eq] at h); (try simp only [decide_eq_false_iff_not] at h); try (exfalso; first | contradiction | omega))))) <;> (go_simp; (try (simp only [↓IntWalk.iteOmega]; try go_simp)); (try simp (disch := omega) only [IntWalk.i64_in]); (try simp (disch := omega) only [IntWalk.u64_in]); first | (refine hK _ ?_; clear hK K) | (apply Exists.intro; refine ⟨fun x => ?_, hK _ ?_⟩; (first | (go_at_call 24; exact C1.out _ GG)); clear hK K)))); all_goals ((apply gLex_end); intro y))
      go_wp2_with fail
      go_roundw
      case measure => simp [intOf]; omega
      case rel => exact ⟨q + 1, by omega, by go_num, ⟨⟨_, GG⟩, rfl⟩⟩
structure RtsOk (w : World) (A : Option Addr) (rs : List Rt) (ps : List (List Nat × Nat)) : Prop where
  rd : RtsRd w A rs ps
  n : ps.length ≤ 1000000
  l : ∀ p, p ∈ ps → p.1.length ≤ 1000000
theorem RtsOk.grows {w w' : World} {A : Option Addr} {rs : List Rt} {ps : List (List Nat × Nat)} (h : RtsOk w A rs ps) (hg : Grows w w') : RtsOk w' A rs ps := ⟨h.rd.grows hg, h.n, h.l⟩
theorem r8RoutesOk (A A2 : Option Addr) (c c2 : Nat) (rs rs2 : List Rt) (ps : List (List Nat × Nat)) (w : World) (h : RtsOk w A rs ps) (h2 : RtsOk w A2 rs2 ps) :
    Calls Tryz.prog 21 #[.slice A rs.length c, .slice A2 rs2.length c2] w fun e w' => e = .returned (.bool true) ∧ Grows w w' := r8RoutesRd A A2 c c2 rs rs2 ps w h.rd h2.rd h.n h.l
def RwP (ps : List (List Nat × Nat)) : Pr := fun u w => ∃ A c rs, u = .tuple #[.slice A rs.length c, .int .i64 0] ∧ RtsOk w A rs ps
theorem RwP.lasts (ps : List (List Nat × Nat)) : Lasts (RwP ps) := fun _ _ _ hg ⟨A, c, rs, e, h⟩ => ⟨A, c, rs, e, h.grows hg⟩
def SlP (ps : List (List Nat × Nat)) : Pr := fun u w => ∃ A c rs, u = .slice A rs.length c ∧ RtsOk w A rs ps
theorem SlP.lasts (ps : List (List Nat × Nat)) : Lasts (SlP ps) := fun _ _ _ hg ⟨A, c, rs, e, h⟩ => ⟨A, c, rs, e, h.grows hg⟩
end Go.Proofs.YtgplpgldhoelcaaGreat

namespace Go.Proofs.YtgplpgldhoelcaaGreat
open Go Go.ChangeShapes Go.WideShapes Go.ChangeAt Go.RowKit Go.Deep
section
variable {H : Type} {enc : TypeId × Value → H} {P : Program} {w : World} {base b0 : Nat} {held : Bool} {r : Reach} {t : TypeId} {v : Value} {d : DataW H} {p : List MemPlace}
theorem open_uuF {f0 f1 : Field} {fuel : Nat} {x : DataW H × List MemPlace} {cs : List Value} (hs : P.underlying t = some (.struct #[f0, f1])) (h0 : P.underlying f0.type = some (.int .u64)) (h1 : P.underlying f1.type = some (.int .u64)) (ho : f0.offset = 0 ∧ f1.offset = 1)
    (hcs : P.cellsOf f0.type = 1 ∧ P.cellsOf f1.type = 1) (hc : P.cellsOf t = 2) (h : DataW.trod enc P w base (fun _ => true) held fuel t cs = some x) : ∃ a b : Int, cs = [.int .u64 a, .int .u64 b] ∧ U64 a ∧ U64 b := by
  obtain ⟨y0, y1, k, _, hlen, e0, e1⟩ := trod_struct2 hs h
  rw [ho.1, hcs.1] at e0
  rw [ho.2, hcs.2] at e1
  rw [hc] at hlen
  match cs, hlen with
  | [c0, c1], _ =>
    obtain ⟨a, ha, _, wa⟩ := DataW.trod_int h0 e0
    obtain ⟨b, hb, _, wb⟩ := DataW.trod_int h1 e1
    simp at ha hb
    subst ha hb
    exact ⟨a, b, rfl, wf_u64 wa, wf_u64 wb⟩
def poIn (o : PO) : Prop := I64 o.k ∧ I64 o.r ∧ (U64 o.f1 ∧ U64 o.f2) ∧ (U64 o.a1 ∧ U64 o.a2) ∧ (U64 o.e1 ∧ U64 o.e2) ∧ (U64 o.g1 ∧ U64 o.g2)
theorem open_popt {f0 f1 f2 f3 f4 f5 g0 g1 : Field} {tr : TypeId} (hs : P.underlying t = some (.struct #[f0, f1, f2, f3, f4, f5])) (k0 : P.underlying f0.type = some (.int .i64)) (k1 : P.underlying f1.type = some (.int .i64))
    (t2 : f2.type = tr ∧ f3.type = tr ∧ f4.type = tr ∧ f5.type = tr) (hr : P.underlying tr = some (.struct #[g0, g1])) (l0 : P.underlying g0.type = some (.int .u64)) (l1 : P.underlying g1.type = some (.int .u64)) (lo : g0.offset = 0 ∧ g1.offset = 1)
    (lcs : P.cellsOf g0.type = 1 ∧ P.cellsOf g1.type = 1) (lc : P.cellsOf tr = 2) (ho : f0.offset = 0 ∧ f1.offset = 1 ∧ f2.offset = 2 ∧ f3.offset = 4 ∧ f4.offset = 6 ∧ f5.offset = 8) (hcs : P.cellsOf f0.type = 1 ∧ P.cellsOf f1.type = 1) (hC : P.cellsOf t = 10)
    (hv : Value.okWide P w r b0 t v) (h : DataW.Trod enc P w base (fun _ => true) held t v d p) : ∃ o : PO, v = poV o ∧ poIn o := by
  obtain ⟨cs, rfl, hsz⟩ := okWide_struct hs hv
  obtain ⟨l⟩ := cs
  match l, hsz.trans hC with
  | [c0, c1, c2, c3, c4, c5, c6, c7, c8, c9], _ =>
    obtain ⟨fuel, hf⟩ := h
    obtain ⟨xs, n, _, hx, _, hlen, hg⟩ := DataW.trod_struct hs hf
    obtain ⟨o0, o1, o2, o3, o4, o5⟩ := ho
    obtain ⟨m2, m3, m4, m5⟩ := t2
    match xs, hlen with
    | [y0, y1, y2, y3, y4, y5], _ =>
      have q0 : DataW.trod enc P w base (fun _ => true) held n f0.type [c0] = some y0 := by simpa [Value.cells, o0, hcs.1] using hg 0 f0 rfl
      have q1 : DataW.trod enc P w base (fun _ => true) held n f1.type [c1] = some y1 := by simpa [Value.cells, o1, hcs.2] using hg 1 f1 rfl
      have q2 : DataW.trod enc P w base (fun _ => true) held n tr [c2, c3] = some y2 := by simpa [Value.cells, o2, m2, lc] using hg 2 f2 rfl
      have q3 : DataW.trod enc P w base (fun _ => true) held n tr [c4, c5] = some y3 := by simpa [Value.cells, o3, m3, lc] using hg 3 f3 rfl
      have q4 : DataW.trod enc P w base (fun _ => true) held n tr [c6, c7] = some y4 := by simpa [Value.cells, o4, m4, lc] using hg 4 f4 rfl
      have q5 : DataW.trod enc P w base (fun _ => true) held n tr [c8, c9] = some y5 := by simpa [Value.cells, o5, m5, lc] using hg 5 f5 rfl
      obtain ⟨x, e0, _, w0⟩ := DataW.trod_int k0 q0
      obtain ⟨y, e1, _, w1⟩ := DataW.trod_int k1 q1
      obtain ⟨a2, b2, e2, u2, v2⟩ := open_uuF hr l0 l1 lo lcs lc q2
      obtain ⟨a3, b3, e3, u3, v3⟩ := open_uuF hr l0 l1 lo lcs lc q3
      obtain ⟨a4, b4, e4, u4, v4⟩ := open_uuF hr l0 l1 lo lcs lc q4
      obtain ⟨a5, b5, e5, u5, v5⟩ := open_uuF hr l0 l1 lo lcs lc q5
      simp at e0 e1 e2 e3 e4 e5
      obtain ⟨rfl, rfl⟩ := e2
      obtain ⟨rfl, rfl⟩ := e3
      obtain ⟨rfl, rfl⟩ := e4
      obtain ⟨rfl, rfl⟩ := e5
      subst e0 e1
      exact ⟨⟨x, y, a2, b2, a3, b3, a4, b4, a5, b5⟩, rfl, wf_i64 w0, wf_i64 w1, ⟨u2, v2⟩, ⟨u3, v3⟩, ⟨u4, v4⟩, ⟨u5, v5⟩⟩
end
end Go.Proofs.YtgplpgldhoelcaaGreat

