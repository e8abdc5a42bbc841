/- The law AstarSound: for every input it returns true, and each argument reads as before. No condition. -/
import Derived.Test.YtiljgkaffgclgaaQMarksBounds15
import Derived.Test.YtiljgkaffgclgaaQAstarSound03
/- What an argument that can be read is: slices of places. -/
namespace Go.Proofs.Ytiljgkaffgclgaa
open Go Go.ChangeShapes Go.WideShapes Go.ChangeAt Go.RowKit
/-- All that is known of a place that came in. -/
def plOk (e : Pl) : Prop := I64 e.x ∧ I64 e.y
section
variable {H : Type} {enc : TypeId × Value → H} {P : Program} {w : World} {base b0 : Nat} {held : Bool} {r : Reach} {t : TypeId} {v : Value} {d : DataW H} {p : List MemPlace}

theorem open_placesC {te : TypeId} {f0 f1 : Field} {fuel : Nat} {x : DataW H × List MemPlace} {cs : List Value} (ht : P.underlying t = some (.slice te)) (hs : P.underlying te = some (.struct #[f0, f1]))
    (h0 : P.underlying f0.type = some (.int .i64)) (h1 : P.underlying f1.type = some (.int .i64)) (ho : f0.offset = 0 ∧ f1.offset = 1)
    (hcs : P.cellsOf f0.type = 1 ∧ P.cellsOf f1.type = 1) (hc : P.cellsOf te = 2) (h : DataW.trod enc P w base (fun _ => true) held fuel t cs = some x) :
    ∃ (A : Option Addr) (n c : Nat) (E : List Pl), cs = [.slice A n c] ∧ n ≤ c ∧ Rd w A 2 n (psCells E) ∧ ∀ k, k < n → plOk (gq E k) := by
  obtain ⟨A, n, c, F, rfl, hl, _, hr, hF⟩ := open_elems ht hc (by omega) h
  have hE : ∀ i, i < n → ∃ e : Pl, F i = pCells e ∧ plOk e := fun i hi => by
    obtain ⟨hlen, m, y, hy⟩ := hF i hi
    obtain ⟨y0, y1, k, _, _, e0, e1⟩ := trod_struct2 hs hy
    rw [ho.1, hcs.1] at e0
    rw [ho.2, hcs.2] at e1
    obtain ⟨c0, c1, hFi⟩ : ∃ c0 c1, F i = [c0, c1] := by
      match F i, hlen with
      | [c0, c1], _ => exact ⟨c0, c1, rfl⟩
    rw [hFi] at e0 e1 ⊢
    obtain ⟨a, ha, _, wa⟩ := DataW.trod_int h0 e0
    obtain ⟨b, hb, _, wb⟩ := DataW.trod_int h1 e1
    simp at ha hb
    subst ha hb
    exact ⟨⟨a, b⟩, rfl, wf_i64 wa, wf_i64 wb⟩
  obtain ⟨f, hf⟩ := Deep.choose_lt (α := Option Pl) (p := fun i o => ∃ e, o = some e ∧ F i = pCells e ∧ plOk e) (fun i hi => by obtain ⟨e, h⟩ := hE i hi; exact ⟨some e, e, rfl, h⟩)
  let f' : Nat → Pl := fun i => (f i).getD ⟨0, 0⟩
  have hf' : ∀ i, i < n → F i = pCells (f' i) ∧ plOk (f' i) := fun i hi => by
    obtain ⟨e, h1, h2⟩ := hf i hi
    simp only [f', h1, Option.getD_some]
    exact h2
  refine ⟨A, n, c, (List.range n).map f', rfl, hl, ?_, fun k hk => ?_⟩
  · have e : psCells ((List.range n).map f') = (List.range n).flatMap F := by
      unfold psCells
      rw [List.flatMap_map, List.flatMap_def, List.flatMap_def]
      exact congrArg List.flatten (List.map_congr_left fun i hi => ((hf' i (List.mem_range.1 hi)).1).symm)
    rw [e]
    exact hr
  · have : gq ((List.range n).map f') k = f' k := by simp [gq, hk]
    rw [this]
    exact (hf' k hk).2
theorem open_places {te : TypeId} {f0 f1 : Field} (ht : P.underlying t = some (.slice te)) (hs : P.underlying te = some (.struct #[f0, f1]))
    (h0 : P.underlying f0.type = some (.int .i64)) (h1 : P.underlying f1.type = some (.int .i64)) (ho : f0.offset = 0 ∧ f1.offset = 1)
    (hcs : P.cellsOf f0.type = 1 ∧ P.cellsOf f1.type = 1) (hc : P.cellsOf te = 2)
    (hv : Value.okWide P w r b0 t v) (h : DataW.Trod enc P w base (fun _ => true) held t v d p) :
    ∃ (A : Option Addr) (n c : Nat) (E : List Pl), v = .slice A n c ∧ n ≤ c ∧ Rd w A 2 n (psCells E) ∧ ∀ k, k < n → plOk (gq E k) := by
  obtain ⟨A, n, c, rfl⟩ := okWide_slice ht hv
  obtain ⟨fuel, hf⟩ := h
  obtain ⟨A', n', c', E, hcs', hl, hr, hE⟩ := open_placesC ht hs h0 h1 ho hcs hc hf
  simp [Value.cells] at hcs'
  obtain ⟨rfl, rfl, rfl⟩ := hcs'
  exact ⟨A, n, c, E, rfl, hl, hr, hE⟩
end
end Go.Proofs.Ytiljgkaffgclgaa

/- The law AstarSound, walked: bounds by places are consistent, and admissible. -/
namespace Go.Proofs.Ytiljgkaffgclgaa
open Go Go.RowKit
theorem bdF_zero {N t : Int} {E : List Edg} {L : List Pl} (h : bdF N E t L = 0) : ∃ NN tN : Nat, N = NN ∧ t = tN ∧ tN < NN ∧ rightF (NN : Int) E = 0 ∧ L.length = NN ∧ L.all okP = true := by
  unfold bdF at h
  by_cases h1 : askF N E [t] = 0
  · rw [if_neg (by omega)] at h
    by_cases h2 : (L.length : Int) = N ∧ L.all okP = true
    · unfold askF at h1
      by_cases h3 : rightF N E = 0
      · rw [if_neg (by omega)] at h1
        by_cases h4 : nodeB N t = true
        · unfold nodeB at h4
          have h5 := of_decide_eq_true h4
          refine ⟨L.length, t.toNat, h2.1.symm, by omega, by have := h2.1; omega, by rw [h2.1]; exact h3, rfl, h2.2⟩
        · simp [h4] at h1
      · rw [if_pos h3] at h1; omega
    · rw [if_neg h2] at h; omega
  · rw [if_pos h1] at h; omega
theorem bnds_consL {N t : Nat} {E : List Edg} {L : List Pl} (hr : rightF (N : Int) E = 0) (hL : L.length = N) (hok : L.all okP = true) (ht : t < N) : ConsL E (bndsN (kI L E E.length) L (gq L t) N) :=
  fun _ hi => bnds_all hr hL hok ht hi
theorem bnds_lt {N t : Nat} {E : List Edg} {L : List Pl} (hr : rightF (N : Int) E = 0) {j : Nat} (hj : j < N) : gn (bndsN (kI L E E.length) L (gq L t) N) j < 4294967296 := by
  obtain ⟨k0, k1⟩ := kI_in (L := L) (right_in hr).2.2.2.2 E.length (Nat.le_refl _)
  have h5 := bndI_in (p := gq L j) (q := gq L t) k0 k1
  rw [bndsN_at _ _ _ hj]
  omega
theorem bnds_zero {N t : Nat} {E : List Edg} {L : List Pl} (ht : t < N) : gn (bndsN (kI L E E.length) L (gq L t) N) t = 0 := by
  rw [bndsN_at _ _ _ ht, bndI_self]
  rfl
set_option maxRecDepth 40000 in
set_option maxHeartbeats 8000000 in
theorem astarSoundW (N : Int) (A : Option Addr) (n c : Nat) (E : List Edg) (B : Option Addr) (m d : Nat) (L : List Pl) (t : Int) (w : World)
    (_ : I64 N) (_ : n ≤ c) (h : Rd w A 3 n (esCells E)) (_ : ∀ k, k < n → edgOk (ge E k)) (_ : m ≤ d) (h2 : Rd w B 2 m (psCells L)) (_ : ∀ k, k < m → plOk (gq L k)) (_ : -9223372036854775808 ≤ t ∧ t < 9223372036854775808) :
    Calls Try.prog 8 #[.agg #[.int .i64 N, .slice A n c], .slice B m d, .int .i64 t] w fun e w' => e = .returned (.bool true) ∧ Grows w w' := by
  obtain rfl : E.length = n := h.elen
  obtain rfl : L.length = m := h2.plen
  have CL := hide (fun (W : World) => lLight45 N A E.length c W)
  cases hq : light45 N E.length with
  | false =>
    rw [hq] at CL
    clear h h2
    go_enter Try.func8, Try.ntmps8
    go_wp2_with (first | (go_at_call 46; refine (CL.out _).mono ?_; rintro e w' ⟨rfl, hg⟩; (first | obtain ⟨x, rfl⟩ := Grows.later2 hg | obtain ⟨x, rfl⟩ := Grows.later hg); clear hg) | (go_at_call 47; refine (alive45 _).mono ?_; rintro e w' ⟨rfl, hg⟩; (first | obtain ⟨x, rfl⟩ := Grows.later2 hg | obtain ⟨x, rfl⟩ := Grows.later hg); clear hg))
    go_ret
    exact ⟨rfl, (by repeat (first | exact Grows.refl _ | refine Grows.now ?_ _ | refine Grows.new ?_ _ | refine Grows.drewN ?_ _ | refine Grows.drew ?_ | assumption | (refine Grows.set ?_ (by first | omega | (simp; done) | (simp; omega)) _)))⟩
  | true =>
    rw [hq] at CL
    have hE : E.length ≤ 1000000 := by
      unfold light45 lightG at hq
      simp at hq
      omega
    clear hq
    by_cases hm : 60 < L.length
    · have hd60 : decide ((60 : Int) < (L.length : Int)) = true := decide_eq_true (by omega)
      clear h h2
      go_enter Try.func8, Try.ntmps8
      go_wp2_with (first | (go_at_call 46; refine (CL.out _).mono ?_; rintro e w' ⟨rfl, hg⟩; (first | obtain ⟨x, rfl⟩ := Grows.later2 hg | obtain ⟨x, rfl⟩ := Grows.later hg); clear hg) | (go_at_call 47; refine (alive45 _).mono ?_; rintro e w' ⟨rfl, hg⟩; (first | obtain ⟨x, rfl⟩ := Grows.later2 hg | obtain ⟨x, rfl⟩ := Grows.later hg); clear hg))
      go_ret
      exact ⟨rfl, (by repeat (first | exact Grows.refl _ | refine Grows.now ?_ _ | refine Grows.new ?_ _ | refine Grows.drewN ?_ _ | refine Grows.drew ?_ | assumption | (refine Grows.set ?_ (by first | omega | (simp; done) | (simp; omega)) _)))⟩
    · have hd60 : decide ((60 : Int) < (L.length : Int)) = false := decide_eq_false (by omega)
      have hl : L.length ≤ 1000000 := by omega
      clear hm
      by_cases hf : bdF N E t L = 0
      · obtain ⟨NN, tN, rfl, rfl, ht, hr, hL, hok⟩ := bdF_zero hf
        obtain ⟨xs, hx⟩ := sea_any hr ht true
        have hN4 : NN ≤ 4096 := by have := (right_in hr).2.1; omega
        rw [hL] at h2 hd60 ⊢
        have C1 := hide (fun (W : World) (g : Grows w W) => asBounds NN tN A c E B d L W (h.grows g) hr (h2.grows g) hok ht)
        have hcl := bnds_consL hr hL hok ht
        have hb := fun j (hj : j < NN) => bnds_lt (L := L) (t := tN) hr hj
        have h0 : gn (bndsN (kI L E E.length) L (gq L tN) NN) tN = 0 := bnds_zero ht
        have hlen : (bndsN (kI L E E.length) L (gq L tN) NN).length = NN := bndsN_len _ _ _ _
        generalize bndsN (kI L E E.length) L (gq L tN) NN = H at *
        have C4 := hide (fun (B' : Option Addr) (cb : Nat) (W : World) (g : Grows w W) (q : Rd W B' 1 NN (wv H)) => by
          have := asCons (NN : Int) A c E B' NN cb H W (h.grows g) hE q (by omega) (fun j hj => by have := hb j hj; omega)
          rw [consB_true hr hcl] at this
          exact this)
        have C5 := hide (fun (B' : Option Addr) (cb : Nat) (W : World) (g : Grows w W) (q : Rd W B' 1 NN (wv H)) => by
          have := asAdm NN tN A c E B' cb H xs W (h.grows g) q hx ht (fun j hj => by have := hb j hj; omega)
          rw [admB_true hx hcl h0] at this
          exact this)
        have HC := hide (fun (B' : Option Addr) (W : World) (q : Rd W B' 1 NN (wv H)) => show ∃ bH oH, B' = some ⟨bH, oH, none⟩ ∧ Holds W ⟨bH, oH + tN, none⟩ (.int .u64 0) from by
          obtain ⟨bH, oH, e, hc⟩ := q.at_ (by omega)
          have h3 := hc tN _ (wv_at (W := H) (by omega))
          rw [h0] at h3
          exact ⟨bH, oH, e, ⟨h3⟩⟩)
        clear h h2 hf hr hok hx hcl hb h0 hlen
        go_enter Try.func8, Try.ntmps8
        go_wp2_with fail
        refine (CL.out _).mono ?_; rintro e w' ⟨rfl, hg⟩; obtain ⟨x1, rfl⟩ := hg.later; clear hg
        have b1 : Arr x1.now w.heap.size 24 [.int .i64 (NN : Int), .slice A E.length c] := Arr.grow ⟨by simp [heap_push]⟩ x1.grows
        go_wp2_with fail
        refine (C1.out _ (by repeat (first | exact Grows.refl _ | refine Grows.now ?_ _ | refine Grows.new ?_ _ | refine Grows.drewN ?_ _ | refine Grows.drew ?_ | assumption | (refine Grows.set ?_ (by first | omega | (simp; done) | (simp; omega)) _)))).mono ?_; rintro e w' ⟨A3, c3, rfl, hr3, hg⟩; obtain ⟨x2, rfl⟩ := hg.later; have HR3 := hide hr3; clear hg
        obtain ⟨bH, oH, rfl, ct⟩ := HC.out _ _ hr3
        clear hr3 C1 HC
        go_wp2_with fail
        refine (C4.out _ _ _ (by repeat (first | exact Grows.refl _ | refine Grows.now ?_ _ | refine Grows.new ?_ _ | refine Grows.drewN ?_ _ | refine Grows.drew ?_ | assumption | (refine Grows.set ?_ (by first | omega | (simp; done) | (simp; omega)) _))) HR3.out).mono ?_; rintro e w' ⟨rfl, hg⟩; obtain ⟨x3, rfl⟩ := hg.later; clear hg
        go_wp2_with fail
        refine (C5.out _ _ _ (by repeat (first | exact Grows.refl _ | refine Grows.now ?_ _ | refine Grows.new ?_ _ | refine Grows.drewN ?_ _ | refine Grows.drew ?_ | assumption | (refine Grows.set ?_ (by first | omega | (simp; done) | (simp; omega)) _))) (HR3.out.grows (by repeat (first | exact Grows.refl _ | refine Grows.now ?_ _ | refine Grows.new ?_ _ | refine Grows.drewN ?_ _ | refine Grows.drew ?_ | assumption | (refine Grows.set ?_ (by first | omega | (simp; done) | (simp; omega)) _))))).mono ?_; rintro e w' ⟨rfl, hg⟩; obtain ⟨x4, rfl⟩ := hg.later; clear hg
        go_wp2_with fail
        refine (alive45 _).mono ?_; rintro e w' ⟨rfl, hg⟩; obtain ⟨x5, rfl⟩ := hg.later; clear hg
        go_wp2_with fail
        go_ret
        exact ⟨rfl, (by repeat (first | exact Grows.refl _ | refine Grows.now ?_ _ | refine Grows.new ?_ _ | refine Grows.drewN ?_ _ | refine Grows.drew ?_ | assumption | (refine Grows.set ?_ (by first | omega | (simp; done) | (simp; omega)) _)))⟩
      · have C0 := hide (fun (W : World) (g : Grows w W) => asBoundsNo N t A c E B d L W (h.grows g) hE (h2.grows g) hl hf)
        have HF := hide hf
        clear h h2 hf
        generalize bdF N E t L = why at *
        have hwn : (why == 0) = false := beq_eq_false_iff_ne.2 HF.out
        go_enter Try.func8, Try.ntmps8
        go_wp2_with fail
        refine (CL.out _).mono ?_; rintro e w' ⟨rfl, hg⟩; obtain ⟨x1, rfl⟩ := hg.later; clear hg
        go_wp2_with fail
        refine (C0.out _ (by repeat (first | exact Grows.refl _ | refine Grows.now ?_ _ | refine Grows.new ?_ _ | refine Grows.drewN ?_ _ | refine Grows.drew ?_ | assumption | (refine Grows.set ?_ (by first | omega | (simp; done) | (simp; omega)) _)))).mono ?_; rintro e w' ⟨rfl, hg⟩; obtain ⟨x2, rfl⟩ := hg.later; clear hg
        go_wp2_with fail
        refine (alive45 _).mono ?_; rintro e w' ⟨rfl, hg⟩; obtain ⟨x7, rfl⟩ := hg.later; clear hg
        go_wp2_with fail
        go_ret
        exact ⟨rfl, (by repeat (first | exact Grows.refl _ | refine Grows.now ?_ _ | refine Grows.new ?_ _ | refine Grows.drewN ?_ _ | refine Grows.drew ?_ | assumption | (refine Grows.set ?_ (by first | omega | (simp; done) | (simp; omega)) _)))⟩
end Go.Proofs.Ytiljgkaffgclgaa

/- The law AstarSound: for every input it returns true, and each argument reads as before. No condition. -/
namespace Go.Proofs.Ytiljgkaffgclgaa.lawAstarSound
open Go Go.ChangeShapes Go.WideShapes Go.ChangeAt Go.RowKit Go.Proofs.Ytiljgkaffgclgaa

theorem own : ownKnob Try.prog.godebug = none := by kernel_rfl
theorem laidOut : laidOutB Try.prog = true := by kernel_rfl

set_option maxRecDepth 100000 in
theorem lifted (os : Os) (started : os.Started) (H : Type) (enc : TypeId × Value → H) :
    ReturnsInHanded {} Try.checked os 8 .any (Rows.astarSoundSpec.pre6 enc Try.prog Try.f8 Rows.astarSoundRow.domain false) (Rows.astarSoundSpec.post enc Try.prog Try.f8 false true false false) := by
  refine returnsInHanded_of_change (C := Try.checked) own started (by kernel_rfl) Try.func8
    (ChangeSpec.witness6 (enc := enc) (C := Try.checked) false ⟨#[], #[.agg #[.int .i64 0, .slice none 0 0], .slice none 0 0, .int .i64 0], []⟩ 8 (by kernel_rfl) (by kernel_rfl) (by kernel_rfl) (by kernel_rfl)) ?_
  intro W base args ds gs before hval0 hW hcnd _
  have hval : ∀ (j : Nat) t v, Try.f8.params[j]? = some t → args[j]? = some v → Value.okWide Try.prog W .any base t v := hval0
  have hW' := hW
  obtain ⟨p, q, hA0, hV, rfl, hfz, hnd⟩ := hW
  have hA : DataW.TrodAll enc Try.prog W 0 (fun _ => true) true Try.f8.params.toList args.toList ds p := hA0
  rw [Try.params8] at hA hval
  obtain ⟨v0, vs0, d0, ds0, p0, q0, hargs, rfl, rfl, h0, r0⟩ := trodAll_cons hA
  obtain ⟨v1, vs1, d1, ds1, p1, q1, rfl, rfl, rfl, h1, r1⟩ := trodAll_cons r0
  obtain ⟨v2, vs2, d2, ds2, p2, q2, rfl, rfl, rfl, h2, r2⟩ := trodAll_cons r1
  obtain ⟨rfl, rfl, rfl⟩ := trodAll_nil r2
  obtain rfl : args = #[v0, v1, v2] := by cases args; simp_all
  obtain ⟨rfl, rfl⟩ := trodVars_none hV
  have k0 := h0
  have lt0 : ∀ x ∈ p0, x.block < W.heap.size := by obtain ⟨m, hm⟩ := k0; exact DataW.trod_lt m _ _ _ hm
  obtain ⟨a0, A0, n0, c0, z0, rfl, x0, l0, w0, u0⟩ := open_graph Try.underlying24 Try.underlying3 Try.underlying22 Try.underlying77 Try.underlying3 Try.underlying3 Try.underlying33 ⟨rfl, rfl, rfl⟩ ⟨by kernel_rfl, by kernel_rfl, by kernel_rfl⟩ (by kernel_rfl) (by kernel_rfl) (by kernel_rfl) (hval 0 24 v0 rfl rfl) h0
  have k1 := h1
  have lt1 : ∀ x ∈ p1, x.block < W.heap.size := by obtain ⟨m, hm⟩ := k1; exact DataW.trod_lt m _ _ _ hm
  obtain ⟨A1, n1, c1, z1, rfl, l1, w1, u1⟩ := open_places Try.underlying79 Try.underlying132 Try.underlying3 Try.underlying3 ⟨rfl, rfl⟩ ⟨by kernel_rfl, by kernel_rfl⟩ (by kernel_rfl) (hval 1 79 v1 rfl rfl) h1
  have k2 := h2
  have lt2 : ∀ x ∈ p2, x.block < W.heap.size := by obtain ⟨m, hm⟩ := k2; exact DataW.trod_lt m _ _ _ hm
  obtain ⟨a2, rfl, w2⟩ := open_i64 Try.underlying3 (hval 2 3 v2 rfl rfl) h2
  clear hA0 hval0
  refine (astarSoundW a0 A0 n0 c0 z0 A1 n1 c1 z1 a2 W x0 l0 w0 u0 l1 w1 u1 w2).mono fun e W' ⟨he, bel⟩ => ?_
  subst he
  exact ⟨_, rfl, _, _, _, [], _, [], hW', trodAll_mk1 (shut_bool Try.underlying4 _), (trodAll_cons_mk (Below.trod laidOut (by kernel_rfl) (of_decide_eq_true (by kernel_rfl)) k0 bel lt0) (trodAll_cons_mk (Below.trod laidOut (by kernel_rfl) (of_decide_eq_true (by kernel_rfl)) k1 bel lt1) (trodAll_cons_mk (Below.trod laidOut (by kernel_rfl) (of_decide_eq_true (by kernel_rfl)) k2 bel lt2) trodAll_mk0))), rfl, Below.frame bel _, fun h => by cases h⟩

theorem over : Rows.astarSoundRow.holds Try.pinned (OpenSpec.ofChange Rows.astarSoundSpec) :=
  OpenClaim.holds_of_wide 8 Try.f8 rfl rfl rfl rfl rfl rfl rfl ⟨rfl, rfl, rfl, rfl, rfl⟩ rfl rfl rfl rfl rfl (by kernel_rfl) Try.func8 (by kernel_rfl)
    (of_decide_eq_true (by kernel_rfl)) (by unfold Func.isWrapper; first | (rw [if_pos (by decide +kernel)]; kernel_rfl) | (rw [if_neg (by decide +kernel)]; exact ⟨rfl, rfl⟩))
    (fun os started H enc _ => lifted os started H enc)

end Go.Proofs.Ytiljgkaffgclgaa.lawAstarSound
namespace Go.Proofs.Ytiljgkaffgclgaa
/-- The statement. -/
theorem astarSound_proved : Rows.AstarSoundSaid := lawAstarSound.over
#print axioms astarSound_proved
end Go.Proofs.Ytiljgkaffgclgaa
