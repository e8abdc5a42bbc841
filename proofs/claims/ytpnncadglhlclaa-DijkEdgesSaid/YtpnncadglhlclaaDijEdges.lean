/- The law DijkEdges, walked: no edge leads nearer than its end is, each node is reached by one that leads just there, and it is as far the other way round. -/
import Derived.Test.YtpnncadglhlclaaAlive14
import Derived.Test.YtpnncadglhlclaaOpenB
namespace Go.Proofs.Ytpnncadglhlclaa
open Go Go.RowKit
theorem elemBool : Elem1 28 4 (.bool false) := by
  have h : (Try.prog.info? 4).map (fun i => (i.zero, i.size, i.bytes)) = some (some (.bool false), 1, 1) := by kernel_rfl
  obtain ⟨i, hi, hz, hs, hb⟩ := info_parts h
  exact ⟨Try.underlying28, ⟨i, hi, hz, hs, by omega⟩, rfl⟩
theorem wv_of {z : List Int} (h : ∀ x ∈ z, (Lit.int .u64 x).wf = true) : z.map (Value.int .u64) = wv (z.map Int.toNat) := by
  unfold wv
  rw [List.map_map]
  refine List.map_congr_left fun x hx => ?_
  have := wf_u64 (h x hx)
  unfold U64 at this
  show Value.int .u64 x = .int .u64 ((x.toNat : Nat) : Int)
  rw [Int.toNat_of_nonneg this.1]
theorem law14Of (back : Bool) (nn ne : Value) (h1 : ∃ A n c, nn = .slice A n c) (h2 : ∃ A n c, ne = .slice A n c) (Aw : Option Addr) (nw cw most : Nat) (w : World) : Calls Try.prog 28 #[oVal back nn ne Aw nw cw most] w fun e w' => e = .returned (oVal back nn ne Aw nw cw most) ∧ Grows w w' := by
  obtain ⟨A1, n1, c1, rfl⟩ := h1
  obtain ⟨A2, n2, c2, rfl⟩ := h2
  unfold oVal
  go_enter Try.func28, Try.ntmps28
  go_wp2
  refine bodyPost_ret (v := .agg #[.bool back, .slice A1 n1 c1, .slice A2 n2 c2, .slice Aw nw cw, .int .u64 (most : Int)]) (by simp (maxDischargeDepth := 6) [results, Try.results28, go_sem, *]) rfl ?_
  exact ⟨rfl, (by repeat (first | exact Grows.refl _ | refine Grows.now ?_ _ | refine Grows.new ?_ _ | refine Grows.drewN ?_ _ | refine Grows.drew ?_ | assumption | (refine Grows.set ?_ (by first | omega | (simp; done) | (simp; omega)) _)))⟩
theorem dc_ok {N s : Int} {E : List Edg} {W : List Nat} (h : dcF N s E W = 0) : rightF N E = 0 ∧ 0 ≤ s ∧ s < N ∧ (W.length = 0 ∨ W.length = E.length) ∧ ∀ i, i < E.length → 1 ≤ gn (wtF N E W) i ∧ gn (wtF N E W) i ≤ 17592186044416 := by
  unfold dcF at h
  split at h
  · cases h
  split at h
  · cases h
  split at h
  · cases h
  split at h
  · cases h
  rename_i h1 h2 h3 h4
  have h1 : rightF N E = 0 := by omega
  have hb : nodeB N s = true := by cases hb : nodeB N s with | false => exact absurd hb h2 | true => rfl
  unfold nodeB at hb
  have hs := of_decide_eq_true hb
  obtain ⟨r1, r2, r3, r4, r5⟩ := right_in h1
  refine ⟨h1, hs.1, hs.2, by omega, fun i hi => ?_⟩
  unfold wtF
  rw [if_neg (by omega), if_neg h3]
  split
  · have hl : i < W.length := by omega
    have hm : gn W i ∈ W := by unfold gn; rw [List.getD_eq_getElem?_getD, List.getElem?_eq_getElem hl]; exact List.getElem_mem hl
    have : penB (gn W i) = false := by
      cases hp : penB (gn W i) with
      | false => rfl
      | true => exact absurd (List.any_eq_true.2 ⟨_, hm, hp⟩) h4
    unfold penB at this
    have := of_decide_eq_false this
    omega
  · have := r5 i hi
    have h2 : gn (eW E) i = (ge E i).w.toNat := by simp [gn, eW, ge, hi]
    rw [h2]
    omega
def gbl (L : List Bool) (i : Nat) : Bool := L.getD i false
def bv (L : List Bool) : List Value := L.map Value.bool
theorem bv_at {L : List Bool} {j : Nat} (h : j < L.length) : (bv L)[j]? = some (.bool (gbl L j)) := by simp [bv, gbl, h]
/-- Which nodes are reached by one of the first k edges. -/
def byK (E : List Edg) (d X : List Nat) (k : Nat) (L : List Bool) : Prop := ∀ j, j < k → gn d (fN E j) < farV → gn d (tN E j) = gn d (fN E j) + gn X j → gbl L (tN E j) = true
theorem gbl_set (L : List Bool) (i j : Nat) (b : Bool) (h : i < L.length) : gbl (L.set i b) j = if j = i then b else gbl L j := by
  unfold gbl
  by_cases e : j = i
  · subst e; simp [h]
  · simp [e, Ne.symm e]
theorem byK.step {E : List Edg} {d X : List Nat} {k : Nat} {L : List Bool} (h : byK E d X k L) (hl : tN E k < L.length) (r : Bool) (hr : r = (gbl L (tN E k) || (decide (gn d (fN E k) < farV) && decide (gn d (tN E k) = gn d (fN E k) + gn X k)))) : byK E d X (k + 1) (L.set (tN E k) r) := by
  intro j hj h1 h2
  rw [gbl_set _ _ _ _ hl]
  by_cases e : tN E j = tN E k
  · rw [if_pos e, hr]
    by_cases hjk : j = k
    · subst hjk
      rw [decide_eq_true h1, decide_eq_true h2]
      simp
    · have := h j (by omega) h1 h2
      rw [e] at this
      rw [this]; rfl
  · rw [if_neg e]
    have hjk : j ≠ k := fun h => e (by rw [h])
    exact h j (by omega) h1 h2
/-- What the law says of the numbers. -/
structure EdgesOk (NN sN : Nat) (E : List Edg) (D L : List Nat) : Prop where
  dlen : D.length = NN
  llen : L.length = E.length
  zero : gn D sN = 0
  edge : ∀ i, i < E.length → gn D (fN E i) < farV → gn D (tN E i) ≤ gn D (fN E i) + gn L i
  by_ : ∀ v, v < NN → v ≠ sN → gn D v < farV → ∃ i, i < E.length ∧ tN E i = v ∧ gn D (fN E i) < farV ∧ gn D v = gn D (fN E i) + gn L i
  most : ∀ v, v < NN → gn D v ≤ farV
  wts : ∀ i, i < E.length → gn L i ≤ 17592186044416
theorem edges_ok {NN sN : Nat} {E : List Edg} {W : List Nat} {xs : List (Nat × Nat)} (hd : dcF NN sN E W = 0) (h : Far (srchOf NN E ⟨false, [], [], W, 0⟩) sN 17592186044416 xs) : EdgesOk NN sN E (outL NN xs) (wtF NN E W) := by
  obtain ⟨rr, hs0, hsN, hwt, hwb⟩ := dc_ok hd
  obtain ⟨r1, r2, r3, r4, r5⟩ := right_in rr
  rw [Int.toNat_natCast] at r4
  have hb : NN * 17592186044416 < farV := by
    have : NN * 17592186044416 ≤ 4096 * 17592186044416 := Nat.mul_le_mul_right _ (by omega)
    unfold farV; omega
  have hc : ∀ i, cntE (srchOf NN E ⟨false, [], [], W, 0⟩) i = true := fun i => by simp [cntE, srchOf]
  refine ⟨outL_len _ _, ?_, h.begin_ (by show sN < NN; omega), fun i hi hf => ?_, fun v hv hvs hf => ?_, fun v hv => ?_, fun i hi => (hwb i hi).2⟩
  · unfold wtF
    rw [if_neg (by omega), if_neg (by omega)]
    split
    · omega
    · simp [eW]
  · exact h.edge (i := i) hb rfl (r4.f i hi).1 (r4.t i hi).1 hi (hc i) hf
  · exact h.by_ hb rfl (fun i hi => (r4.f i hi).1) hv hvs hf
  · rcases outL_cases h hb hv with ⟨_, h1⟩ | ⟨h1, _⟩
    · exact Nat.le_of_lt h1
    · exact Nat.le_of_eq h1
set_option maxRecDepth 20000 in
set_option maxHeartbeats 8000000 in
theorem dijkEdgesW (N : Int) (A : Option Addr) (n c : Nat) (E : List Edg) (s t : Int) (B : Option Addr) (m d : Nat) (z : List Int) (w : World) (_ : I64 N) (_ : n ≤ c) (h : Rd w A 3 n (esCells E)) (_ : ∀ k, k < n → edgOk (ge E k)) (_ : I64 s) (_ : I64 t) (_ : m ≤ d) (h' : Rd w B 1 m (z.map (.int .u64))) (hz : ∀ x ∈ z, (Lit.int .u64 x).wf = true) :
    Calls Try.prog 5 #[.agg #[.int .i64 N, .slice A n c], .int .i64 s, .int .i64 t, .slice B m d] w fun e w' => e = .returned (.bool true) ∧ Grows w w' := by
  rw [wv_of hz] at h'
  generalize z.map Int.toNat = W at h'
  clear hz
  have HR := hide h
  have HW := hide h'
  have HL := hide h.elen
  have HLW := hide h'.wlen
  have CL := fun (W1 : World) => lLight14 N A n c false none none B 0 0 0 0 m d 0 W1
  unfold oVal at CL
  cases hq : light14 N n 0 0 m with
  | false =>
    rw [hq] at CL
    have H1 := hide CL
    clear CL hq h h'
    go_enter Try.func5, Try.ntmps5
    go_wp2_with (first | (go_at_call 24; refine (H1.out _).mono ?_; rintro e w' ⟨rfl, hg⟩; (first | obtain ⟨x, rfl⟩ := Grows.later2 hg | obtain ⟨x, rfl⟩ := Grows.later hg); clear hg) | (go_at_call 25; refine (alive14 _).mono ?_; rintro e w' ⟨rfl, hg⟩; (first | obtain ⟨x, rfl⟩ := Grows.later2 hg | obtain ⟨x, rfl⟩ := Grows.later hg); clear hg))
    go_ret
    exact ⟨rfl, (by repeat (first | exact Grows.refl _ | refine Grows.now ?_ _ | refine Grows.new ?_ _ | refine Grows.drewN ?_ _ | refine Grows.drew ?_ | assumption | (refine Grows.set ?_ (by first | omega | (simp; done) | (simp; omega)) _)))⟩
  | true =>
  rw [hq] at CL
  have H1 := hide CL
  have hsz : n ≤ 1000000 ∧ m ≤ 1000000 := by
    unfold light14 lightG at hq
    simp at hq
    omega
  obtain ⟨hn, hm⟩ := hsz
  clear CL hq
  by_cases hd : dcF N s E W = 0
  · obtain ⟨rr, hs0, hsN, hwt, hwb⟩ := dc_ok hd
    obtain ⟨r1, r2, r3, r4, r5⟩ := right_in rr
    obtain ⟨NN, rfl⟩ : ∃ NN : Nat, N = (NN : Int) := ⟨N.toNat, by omega⟩
    obtain ⟨sN, rfl⟩ : ∃ sN : Nat, s = (sN : Int) := ⟨s.toNat, by omega⟩
    rw [Int.toNat_natCast] at r4
    have hl := HL.out
    subst hl
    have hlw := HLW.out
    subst hlw
    have nilR : ∀ W1 : World, Rd W1 none 1 0 [] := fun W1 => ⟨rfl, fun h => absurd h (by omega)⟩
    have hok1 : WalkOk NN sN E ⟨false, [], [], W, 0⟩ := ⟨rr, by omega, hwt, by show 0 < _; omega, by show 0 ≤ _; omega, by show 0 ≤ _; omega⟩
    obtain ⟨xs, hx1, hx2, hx3⟩ := walk_is hok1 hwb (Nat.le_refl _) (by simp)
    have HOK := hide (edges_ok hd hx2)
    have K1 := hide (fun (W1 : World) (g : Grows w W1) => show Calls Try.prog 26 #[.agg #[.int .i64 (NN : Int), .slice A E.length c], .int .i64 (sN : Int), .agg #[.bool false, .slice none 0 0, .slice none 0 0, .slice B W.length d, .int .u64 0]] W1 fun e w' =>
        ∃ go, e = .returned (.tuple #[.slice (some ⟨go, 0, none⟩) NN NN, .int .i64 0]) ∧ Row1 w' go 37 1 NN NN (wv (outL NN xs)) ∧ W1.heap.size ≤ go ∧ Grows W1 w' from
      djAll NN sN A c E ⟨false, [], [], W, 0⟩ none none B 0 0 d xs W1 (h.grows g) (nilR _) (nilR _) (h'.grows g) hok1 hd hx1 hx3)
    have K2 := hide (fun (W1 : World) (g : Grows w W1) => show Calls Try.prog 29 #[.agg #[.int .i64 (NN : Int), .slice A E.length c], .agg #[.bool false, .slice none 0 0, .slice none 0 0, .slice B W.length d, .int .u64 0]] W1 (GiveU W1 (wtF NN E W)) from
      djWeights NN A E.length c E false (.slice none 0 0) (.slice none 0 0) B W.length d 0 W W1 (h.grows g) (h'.grows g) hn hm)
    have K5 := hide (fun (tN : Nat) (ht : tN < NN) => show ∃ D2 : List Nat, (D2.length = NN ∧ gn D2 sN = gn (outL NN xs) tN) ∧ ∀ (W1 : World), Grows w W1 → Calls Try.prog 26 #[.agg #[.int .i64 (NN : Int), .slice A E.length c], .int .i64 (tN : Int), .agg #[.bool true, .slice none 0 0, .slice none 0 0, .slice B W.length d, .int .u64 0]] W1 fun e w' =>
        ∃ go, e = .returned (.tuple #[.slice (some ⟨go, 0, none⟩) NN NN, .int .i64 0]) ∧ Row1 w' go 37 1 NN NN (wv D2) ∧ W1.heap.size ≤ go ∧ Grows W1 w' from by
      have hok2 : WalkOk NN tN E ⟨true, [], [], W, 0⟩ := ⟨rr, ht, hwt, by show 0 < _; omega, by show 0 ≤ _; omega, by show 0 ≤ _; omega⟩
      obtain ⟨ys, hy1, hy2, hy3⟩ := walk_is hok2 hwb (Nat.le_refl _) (by simp)
      have hd2 : dcF NN tN E W = 0 := by
        unfold dcF at hd ⊢
        have hb1 : nodeB (NN : Int) (sN : Int) = true := decide_eq_true ⟨by omega, by omega⟩
        have hb2 : nodeB (NN : Int) (tN : Int) = true := decide_eq_true ⟨by omega, by omega⟩
        rw [hb1] at hd
        rw [hb2]
        exact hd
      have hb : NN * 17592186044416 < farV := by
        have : NN * 17592186044416 ≤ 4096 * 17592186044416 := Nat.mul_le_mul_right _ (by omega)
        unfold farV; omega
      have e := Far.turned (x := srchOf NN E ⟨false, [], [], W, 0⟩) (ys := ys) hx2 hy2 hb rfl (fun i _ => by simp [cntE, srchOf, turnX]) (fun i _ => by simp [cntE, srchOf]) (show sN < NN by omega) (show tN < NN from ht)
      exact ⟨outL NN ys, ⟨outL_len _ _, e⟩, fun W1 g => djAll NN tN A c E ⟨true, [], [], W, 0⟩ none none B 0 0 d ys W1 (h.grows g) (nilR _) (nilR _) (h'.grows g) hok2 hd2 hy1 hy3⟩)
    have HEF := hide (fun i (hi : i < E.length) => r4.f i hi)
    have HET := hide (fun i (hi : i < E.length) => r4.t i hi)
    have hNb : NN ≤ 4096 := by omega
    have hsNN : sN < NN := by omega
    have hEb : E.length ≤ 16384 := r3
    clear hx1 hx2 hx3 hok1 hd rr hwt hwb r1 r2 r3 r4 r5 h h' hs0 hsN nilR HW HL HLW hn hm
    generalize outL NN xs = D at *
    generalize wtF NN E W = L at *
    go_enter Try.func5, Try.ntmps5
    go_wp2_with fail
    refine (H1.out _).mono ?_; rintro e w' ⟨rfl, hg⟩; obtain ⟨x1, rfl⟩ := hg.later; clear hg
    go_wp2_with fail
    refine (K1.out _ (by repeat (first | exact Grows.refl _ | refine Grows.now ?_ _ | refine Grows.new ?_ _ | refine Grows.drewN ?_ _ | refine Grows.drew ?_ | assumption | (refine Grows.set ?_ (by first | omega | (simp; done) | (simp; omega)) _)))).mono ?_; rintro e w' ⟨go, rfl, hrow, _, hg⟩; obtain ⟨x2, rfl⟩ := Grows.later2 hg; have HD := hide hrow; clear hg hrow
    go_wp2_with fail
    refine (K2.out _ (by repeat (first | exact Grows.refl _ | refine Grows.now ?_ _ | refine Grows.new ?_ _ | refine Grows.drewN ?_ _ | refine Grows.drew ?_ | assumption | (refine Grows.set ?_ (by first | omega | (simp; done) | (simp; omega)) _)))).mono ?_; rintro e w' ⟨A3, c3, rfl, hown, hg⟩; obtain ⟨x3, hx3⟩ : ∃ x3 : Later x2.now, w' = x3.now := hg.later
    subst hx3
    have HX := hide hown.rd
    have HD3 := hide (HD.out.grow x3.grows)
    have hll := HOK.out.llen
    have hw3 : Grows w x3.now := Grows.trans (by show Grows w x2.now; exact (by repeat (first | exact Grows.refl _ | refine Grows.now ?_ _ | refine Grows.new ?_ _ | refine Grows.drewN ?_ _ | refine Grows.drew ?_ | assumption | (refine Grows.set ?_ (by first | omega | (simp; done) | (simp; omega)) _)))) x3.grows
    rw [hll] at HX ⊢
    clear hg hown HD K1 K2 H1 hll
    have m0 : Mine x3.now ⟨go, sN, none⟩ (.int .u64 0) := by
      have := HD3.out.mine (wv_at (W := D) (j := sN) (by rw [HOK.out.dlen]; exact hsNN))
      rw [HOK.out.zero] at this
      exact this
    go_wp2_with (at_make; refine wp_make1 elemBool rfl _ _ rfl x3.now (Grows.refl _) NN rfl rfl (by omega) (by omega) (by omega) ?_; intro gb y0 hgb hown0; have HO0 := hide hown0; clear hown0)
    have hNp : 0 < NN := by omega
    go_loopw [14] (fun i wr => ∃ k : Nat, k ≤ E.length ∧ i = .int .i64 (k : Int) ∧ ∃ y : Later x3.now, wr = y.now ∧ ∃ Lb : List Bool, Lb.length = NN ∧ Own y.now x3.now.heap.size 4 1 (some ⟨gb, 0, none⟩) NN NN (bv Lb) ∧ byK E D L k Lb) (fun i _ => E.length - (Go.RowKit.intOf i).toNat)
    case atStart =>
      refine ⟨0, by omega, by go_num, y0, rfl, List.replicate NN false, by simp, ?_, fun j h1 => by omega⟩
      have := HO0.out
      simpa [bv] using this
    case round =>
      obtain ⟨q, hq, rfl, y, rfl, Lb, hlb, hown, hby⟩ := hrel
      have HO := hide hown
      have HLB := hide hlb
      have HBY := hide hby
      clear hlb hby HO0
      by_cases hlt : q < E.length
      · obtain ⟨b2, off2, rfl, hc2⟩ := HR.out.edgesH (by omega)
        obtain ⟨c1, c2, c3'⟩ := hc2 q hlt
        obtain ⟨hf, e1⟩ := HEF.out q hlt
        obtain ⟨ht, e2⟩ := HET.out q hlt
        obtain ⟨_, bx, offx, rfl, hcx⟩ := HX.out.wordsH (by omega)
        have k1 := hcx q hlt
        have d1 := HD3.out.mine (wv_at (W := D) (j := fN E q) (by rw [HOK.out.dlen]; exact hf))
        have d2 := HD3.out.mine (wv_at (W := D) (j := tN E q) (by rw [HOK.out.dlen]; exact ht))
        have mb : Mine y.now ⟨gb, tN E q, none⟩ (.bool (gbl Lb (tN E q))) := (hown.row).1.mine (bv_at (by rw [HLB.out]; exact ht))
        have HST := hide (fun r => HBY.out.step (by rw [HLB.out]; exact ht) r)
        have hE := HOK.out.edge q hlt
        have hdf := HOK.out.most _ hf
        have hdt := HOK.out.most _ ht
        have hwi := HOK.out.wts q hlt
        rw [e1] at c1
        rw [e2] at c2
        clear hc2 hcx e1 e2 hown
        generalize (ge E q).w = gw at *
        generalize gn D (fN E q) = df at *
        generalize gn D (tN E q) = dt at *
        generalize gn L q = wi at *
        generalize gbl Lb (tN E q) = b at *
        generalize tN E q = tt at *
        generalize fN E q = ff at *
        unfold farV at hE hdf hdt
        by_cases h1 : df < 4611686018427387904
        · have hb1 : decide ((df : Int) < 4611686018427387904) = true := decide_eq_true (by omega)
          have hb2 : decide ((df : Int) + (wi : Int) < (dt : Int)) = false := decide_eq_false (by have := hE h1; omega)
          have HB4 : Hid (decide (df < farV) = true) := decide_eq_true h1
          obtain ⟨r, hr⟩ : ∃ r, decide (dt = df + wi) = r := ⟨_, rfl⟩
          have hb3 : ((dt : Int) == (df : Int) + (wi : Int)) = r := by
            rw [← hr]
            apply bool_ext
            simp
            omega
          have HRR := hide hr
          clear hr hE
          cases b with
          | true =>
            go_upto_region 15 with fail
            ((first | refine wp_region_gen2 (by kernel_rfl) (by kernel_rfl) ?_ | refine wp_region_gen (by kernel_rfl) (by kernel_rfl) ?_); (repeat' (first | (refine gLex_val0 rfl (by kernel_rfl) (fun K hK => ?_); (go_simp; (try (simp only [↓IntWalk.iteOmega]; try go_simp)); (try simp (disch := omega) only [IntWalk.i64_in]); (try simp (disch := omega) only [IntWalk.u64_in]); first | (refine hK _ ?_; clear hK K) | (apply Exists.intro; refine ⟨fun x => ?_, hK _ ?_⟩; (first | fail); clear hK K))) | (refine gLex_undef rfl rfl rfl (by kernel_rfl) (fun K hK => ?_); go_simp; refine hK _ ?_; clear hK K) | (refine gLex_ask rfl rfl rfl ?_; first | (apply gAsk_yes; kernel_rfl; intro K hK; (go_simp; (try (simp only [↓IntWalk.iteOmega]; try go_simp)); (try simp (disch := omega) only [IntWalk.i64_in]); (try simp (disch := omega) only [IntWalk.u64_in]); first | (refine hK _ ?_; clear hK K) | (apply Exists.intro; refine ⟨fun x => ?_, hK _ ?_⟩; (first | fail); clear hK K))) | ((first | apply gAsk_no1 | apply gAsk_no2); kernel_rfl; intro K hK; simp [go_sem]; refine hK _ ?_; clear hK K) | (apply gAsk_part; kernel_rfl; all_goals (intro h K hK; (try simp only [Bool.not_true] at h); (try simp only [Bool.not_false] at h); (try simp only [decide_eq_true_eq] at h); (try simp only [decide_eq_false_iff_not] at h); first | (exfalso; first | contradiction | omega) | (go_simp; (try (simp only [↓IntWalk.iteOmega]; try go_simp)); (try simp (disch := omega) only [IntWalk.i64_in]); (try simp (disch := omega) only [IntWalk.u64_in]); first | (refine hK _ ?_; clear hK K) | (apply Exists.intro; refine ⟨fun x => ?_, hK _ ?_⟩; (first | fail); clear hK K))))))); all_goals ((apply gLex_end); intro y2))
            go_upto_region 17 with fail
            (refine wp_region_tail1 35 (by kernel_rfl) (by kernel_rfl) ?_; simp only [List.take_succ_cons, List.take_zero, List.drop_succ_cons, List.drop_zero]; (repeat' (first | (refine gLex_val0 rfl (by kernel_rfl) (fun K hK => ?_); (go_simp; (try (simp only [↓IntWalk.iteOmega]; try go_simp)); (try simp (disch := omega) only [IntWalk.i64_in]); (try simp (disch := omega) only [IntWalk.u64_in]); first | (refine hK _ ?_; clear hK K) | (apply Exists.intro; refine ⟨fun x => ?_, hK _ ?_⟩; (first | fail); clear hK K))) | (refine gLex_undef rfl rfl rfl (by kernel_rfl) (fun K hK => ?_); go_simp; refine hK _ ?_; clear hK K) | (refine gLex_ask rfl rfl rfl ?_; first | (apply gAsk_yes; kernel_rfl; intro K hK; (go_simp; (try (simp only [↓IntWalk.iteOmega]; try go_simp)); (try simp (disch := omega) only [IntWalk.i64_in]); (try simp (disch := omega) only [IntWalk.u64_in]); first | (refine hK _ ?_; clear hK K) | (apply Exists.intro; refine ⟨fun x => ?_, hK _ ?_⟩; (first | fail); clear hK K))) | ((first | apply gAsk_no1 | apply gAsk_no2); kernel_rfl; intro K hK; simp [go_sem]; refine hK _ ?_; clear hK K)))))
            refine gLex_endT (fun y3 => ?_)
            go_wp2_with fail
            obtain ⟨y4, e4, ho4⟩ := (HO.out.grows (w' := y3.now) (((Grows.refl y.now).new _).trans (y2.grows.trans y3.grows))).put (j := tt) (y.grows.trans (((Grows.refl y.now).new _).trans (y2.grows.trans y3.grows))) (by omega) (.bool true)
            rw [e4]
            have HO4 := hide ho4
            clear e4 ho4
            go_roundw
            case measure => simp [Go.RowKit.intOf]; omega
            case rel => exact ⟨q + 1, by omega, by go_num, y4, rfl, Lb.set tt true, by rw [List.length_set]; exact HLB.out, by have := HO4.out; simpa [bv, List.map_set] using this, HST.out true (by rfl)⟩
          | false =>
            go_upto_region 15 with fail
            ((first | refine wp_region_gen2 (by kernel_rfl) (by kernel_rfl) ?_ | refine wp_region_gen (by kernel_rfl) (by kernel_rfl) ?_); (repeat' (first | (refine gLex_val0 rfl (by kernel_rfl) (fun K hK => ?_); (go_simp; (try (simp only [↓IntWalk.iteOmega]; try go_simp)); (try simp (disch := omega) only [IntWalk.i64_in]); (try simp (disch := omega) only [IntWalk.u64_in]); first | (refine hK _ ?_; clear hK K) | (apply Exists.intro; refine ⟨fun x => ?_, hK _ ?_⟩; (first | fail); clear hK K))) | (refine gLex_undef rfl rfl rfl (by kernel_rfl) (fun K hK => ?_); go_simp; refine hK _ ?_; clear hK K) | (refine gLex_ask rfl rfl rfl ?_; first | (apply gAsk_yes; kernel_rfl; intro K hK; (go_simp; (try (simp only [↓IntWalk.iteOmega]; try go_simp)); (try simp (disch := omega) only [IntWalk.i64_in]); (try simp (disch := omega) only [IntWalk.u64_in]); first | (refine hK _ ?_; clear hK K) | (apply Exists.intro; refine ⟨fun x => ?_, hK _ ?_⟩; (first | fail); clear hK K))) | ((first | apply gAsk_no1 | apply gAsk_no2); kernel_rfl; intro K hK; simp [go_sem]; refine hK _ ?_; clear hK K) | (apply gAsk_part; kernel_rfl; all_goals (intro h K hK; (try simp only [Bool.not_true] at h); (try simp only [Bool.not_false] at h); (try simp only [decide_eq_true_eq] at h); (try simp only [decide_eq_false_iff_not] at h); first | (exfalso; first | contradiction | omega) | (go_simp; (try (simp only [↓IntWalk.iteOmega]; try go_simp)); (try simp (disch := omega) only [IntWalk.i64_in]); (try simp (disch := omega) only [IntWalk.u64_in]); first | (refine hK _ ?_; clear hK K) | (apply Exists.intro; refine ⟨fun x => ?_, hK _ ?_⟩; (first | fail); clear hK K))))))); all_goals ((apply gLex_end); intro y2))
            go_upto_region 17 with fail
            (refine wp_region_tail1 35 (by kernel_rfl) (by kernel_rfl) ?_; simp only [List.take_succ_cons, List.take_zero, List.drop_succ_cons, List.drop_zero]; (repeat' (first | (refine gLex_val0 rfl (by kernel_rfl) (fun K hK => ?_); (go_simp; (try (simp only [↓IntWalk.iteOmega]; try go_simp)); (try simp (disch := omega) only [IntWalk.i64_in]); (try simp (disch := omega) only [IntWalk.u64_in]); first | (refine hK _ ?_; clear hK K) | (apply Exists.intro; refine ⟨fun x => ?_, hK _ ?_⟩; (first | fail); clear hK K))) | (refine gLex_undef rfl rfl rfl (by kernel_rfl) (fun K hK => ?_); go_simp; refine hK _ ?_; clear hK K) | (refine gLex_ask rfl rfl rfl ?_; first | (apply gAsk_yes; kernel_rfl; intro K hK; (go_simp; (try (simp only [↓IntWalk.iteOmega]; try go_simp)); (try simp (disch := omega) only [IntWalk.i64_in]); (try simp (disch := omega) only [IntWalk.u64_in]); first | (refine hK _ ?_; clear hK K) | (apply Exists.intro; refine ⟨fun x => ?_, hK _ ?_⟩; (first | fail); clear hK K))) | ((first | apply gAsk_no1 | apply gAsk_no2); kernel_rfl; intro K hK; simp [go_sem]; refine hK _ ?_; clear hK K)))))
            refine gLex_endT (fun y3 => ?_)
            go_wp2_with fail
            obtain ⟨y4, e4, ho4⟩ := (HO.out.grows (w' := y3.now) (((Grows.refl y.now).new _).trans (y2.grows.trans y3.grows))).put (j := tt) (y.grows.trans (((Grows.refl y.now).new _).trans (y2.grows.trans y3.grows))) (by omega) (.bool r)
            rw [e4]
            have HO4 := hide ho4
            clear e4 ho4
            go_roundw
            case measure => simp [Go.RowKit.intOf]; omega
            case rel => exact ⟨q + 1, by omega, by go_num, y4, rfl, Lb.set tt r, by rw [List.length_set]; exact HLB.out, by have := HO4.out; simpa [bv, List.map_set] using this, HST.out r (by rw [HB4.out, HRR.out]; rfl)⟩
        · have hb1 : decide ((df : Int) < 4611686018427387904) = false := decide_eq_false (by omega)
          have HB4 : Hid (decide (df < farV) = false) := decide_eq_false h1
          clear hE
          cases b with
          | true =>
            go_upto_region 15 with fail
            ((first | refine wp_region_gen2 (by kernel_rfl) (by kernel_rfl) ?_ | refine wp_region_gen (by kernel_rfl) (by kernel_rfl) ?_); (repeat' (first | (refine gLex_val0 rfl (by kernel_rfl) (fun K hK => ?_); (go_simp; (try (simp only [↓IntWalk.iteOmega]; try go_simp)); (try simp (disch := omega) only [IntWalk.i64_in]); (try simp (disch := omega) only [IntWalk.u64_in]); first | (refine hK _ ?_; clear hK K) | (apply Exists.intro; refine ⟨fun x => ?_, hK _ ?_⟩; (first | fail); clear hK K))) | (refine gLex_undef rfl rfl rfl (by kernel_rfl) (fun K hK => ?_); go_simp; refine hK _ ?_; clear hK K) | (refine gLex_ask rfl rfl rfl ?_; first | (apply gAsk_yes; kernel_rfl; intro K hK; (go_simp; (try (simp only [↓IntWalk.iteOmega]; try go_simp)); (try simp (disch := omega) only [IntWalk.i64_in]); (try simp (disch := omega) only [IntWalk.u64_in]); first | (refine hK _ ?_; clear hK K) | (apply Exists.intro; refine ⟨fun x => ?_, hK _ ?_⟩; (first | fail); clear hK K))) | ((first | apply gAsk_no1 | apply gAsk_no2); kernel_rfl; intro K hK; simp [go_sem]; refine hK _ ?_; clear hK K) | (apply gAsk_part; kernel_rfl; all_goals (intro h K hK; (try simp only [Bool.not_true] at h); (try simp only [Bool.not_false] at h); (try simp only [decide_eq_true_eq] at h); (try simp only [decide_eq_false_iff_not] at h); first | (exfalso; first | contradiction | omega) | (go_simp; (try (simp only [↓IntWalk.iteOmega]; try go_simp)); (try simp (disch := omega) only [IntWalk.i64_in]); (try simp (disch := omega) only [IntWalk.u64_in]); first | (refine hK _ ?_; clear hK K) | (apply Exists.intro; refine ⟨fun x => ?_, hK _ ?_⟩; (first | fail); clear hK K))))))); all_goals ((apply gLex_end); intro y2))
            go_upto_region 17 with fail
            (refine wp_region_tail1 35 (by kernel_rfl) (by kernel_rfl) ?_; simp only [List.take_succ_cons, List.take_zero, List.drop_succ_cons, List.drop_zero]; (repeat' (first | (refine gLex_val0 rfl (by kernel_rfl) (fun K hK => ?_); (go_simp; (try (simp only [↓IntWalk.iteOmega]; try go_simp)); (try simp (disch := omega) only [IntWalk.i64_in]); (try simp (disch := omega) only [IntWalk.u64_in]); first | (refine hK _ ?_; clear hK K) | (apply Exists.intro; refine ⟨fun x => ?_, hK _ ?_⟩; (first | fail); clear hK K))) | (refine gLex_undef rfl rfl rfl (by kernel_rfl) (fun K hK => ?_); go_simp; refine hK _ ?_; clear hK K) | (refine gLex_ask rfl rfl rfl ?_; first | (apply gAsk_yes; kernel_rfl; intro K hK; (go_simp; (try (simp only [↓IntWalk.iteOmega]; try go_simp)); (try simp (disch := omega) only [IntWalk.i64_in]); (try simp (disch := omega) only [IntWalk.u64_in]); first | (refine hK _ ?_; clear hK K) | (apply Exists.intro; refine ⟨fun x => ?_, hK _ ?_⟩; (first | fail); clear hK K))) | ((first | apply gAsk_no1 | apply gAsk_no2); kernel_rfl; intro K hK; simp [go_sem]; refine hK _ ?_; clear hK K)))))
            refine gLex_endT (fun y3 => ?_)
            go_wp2_with fail
            obtain ⟨y4, e4, ho4⟩ := (HO.out.grows (w' := y3.now) (((Grows.refl y.now).new _).trans (y2.grows.trans y3.grows))).put (j := tt) (y.grows.trans (((Grows.refl y.now).new _).trans (y2.grows.trans y3.grows))) (by omega) (.bool true)
            rw [e4]
            have HO4 := hide ho4
            clear e4 ho4
            go_roundw
            case measure => simp [Go.RowKit.intOf]; omega
            case rel => exact ⟨q + 1, by omega, by go_num, y4, rfl, Lb.set tt true, by rw [List.length_set]; exact HLB.out, by have := HO4.out; simpa [bv, List.map_set] using this, HST.out true (by rfl)⟩
          | false =>
            go_upto_region 15 with fail
            ((first | refine wp_region_gen2 (by kernel_rfl) (by kernel_rfl) ?_ | refine wp_region_gen (by kernel_rfl) (by kernel_rfl) ?_); (repeat' (first | (refine gLex_val0 rfl (by kernel_rfl) (fun K hK => ?_); (go_simp; (try (simp only [↓IntWalk.iteOmega]; try go_simp)); (try simp (disch := omega) only [IntWalk.i64_in]); (try simp (disch := omega) only [IntWalk.u64_in]); first | (refine hK _ ?_; clear hK K) | (apply Exists.intro; refine ⟨fun x => ?_, hK _ ?_⟩; (first | fail); clear hK K))) | (refine gLex_undef rfl rfl rfl (by kernel_rfl) (fun K hK => ?_); go_simp; refine hK _ ?_; clear hK K) | (refine gLex_ask rfl rfl rfl ?_; first | (apply gAsk_yes; kernel_rfl; intro K hK; (go_simp; (try (simp only [↓IntWalk.iteOmega]; try go_simp)); (try simp (disch := omega) only [IntWalk.i64_in]); (try simp (disch := omega) only [IntWalk.u64_in]); first | (refine hK _ ?_; clear hK K) | (apply Exists.intro; refine ⟨fun x => ?_, hK _ ?_⟩; (first | fail); clear hK K))) | ((first | apply gAsk_no1 | apply gAsk_no2); kernel_rfl; intro K hK; simp [go_sem]; refine hK _ ?_; clear hK K) | (apply gAsk_part; kernel_rfl; all_goals (intro h K hK; (try simp only [Bool.not_true] at h); (try simp only [Bool.not_false] at h); (try simp only [decide_eq_true_eq] at h); (try simp only [decide_eq_false_iff_not] at h); first | (exfalso; first | contradiction | omega) | (go_simp; (try (simp only [↓IntWalk.iteOmega]; try go_simp)); (try simp (disch := omega) only [IntWalk.i64_in]); (try simp (disch := omega) only [IntWalk.u64_in]); first | (refine hK _ ?_; clear hK K) | (apply Exists.intro; refine ⟨fun x => ?_, hK _ ?_⟩; (first | fail); clear hK K))))))); all_goals ((apply gLex_end); intro y2))
            go_upto_region 17 with fail
            (refine wp_region_tail1 35 (by kernel_rfl) (by kernel_rfl) ?_; simp only [List.take_succ_cons, List.take_zero, List.drop_succ_cons, List.drop_zero]; (repeat' (first | (refine gLex_val0 rfl (by kernel_rfl) (fun K hK => ?_); (go_simp; (try (simp only [↓IntWalk.iteOmega]; try go_simp)); (try simp (disch := omega) only [IntWalk.i64_in]); (try simp (disch := omega) only [IntWalk.u64_in]); first | (refine hK _ ?_; clear hK K) | (apply Exists.intro; refine ⟨fun x => ?_, hK _ ?_⟩; (first | fail); clear hK K))) | (refine gLex_undef rfl rfl rfl (by kernel_rfl) (fun K hK => ?_); go_simp; refine hK _ ?_; clear hK K) | (refine gLex_ask rfl rfl rfl ?_; first | (apply gAsk_yes; kernel_rfl; intro K hK; (go_simp; (try (simp only [↓IntWalk.iteOmega]; try go_simp)); (try simp (disch := omega) only [IntWalk.i64_in]); (try simp (disch := omega) only [IntWalk.u64_in]); first | (refine hK _ ?_; clear hK K) | (apply Exists.intro; refine ⟨fun x => ?_, hK _ ?_⟩; (first | fail); clear hK K))) | ((first | apply gAsk_no1 | apply gAsk_no2); kernel_rfl; intro K hK; simp [go_sem]; refine hK _ ?_; clear hK K)))))
            refine gLex_endT (fun y3 => ?_)
            go_wp2_with fail
            obtain ⟨y4, e4, ho4⟩ := (HO.out.grows (w' := y3.now) (((Grows.refl y.now).new _).trans (y2.grows.trans y3.grows))).put (j := tt) (y.grows.trans (((Grows.refl y.now).new _).trans (y2.grows.trans y3.grows))) (by omega) (.bool false)
            rw [e4]
            have HO4 := hide ho4
            clear e4 ho4
            go_roundw
            case measure => simp [Go.RowKit.intOf]; omega
            case rel => exact ⟨q + 1, by omega, by go_num, y4, rfl, Lb.set tt false, by rw [List.length_set]; exact HLB.out, by have := HO4.out; simpa [bv, List.map_set] using this, HST.out false (by rw [HB4.out]; rfl)⟩
      · obtain rfl : q = E.length := by omega
        have HOW := hide hown
        clear hown HO hq hlt
        go_wp2_with fail
        go_loopw [16] (fun i wr => ∃ k : Nat, k ≤ NN ∧ i = .int .i64 (k : Int) ∧ ∃ y2 : Later y.now, wr = y2.now) (fun i _ => NN - (Go.RowKit.intOf i).toNat)
        case atStart => exact ⟨0, by omega, by go_num, ⟨_, Grows.refl _⟩, rfl⟩
        case round =>
          obtain ⟨q, hq, rfl, y2, rfl⟩ := hrel
          by_cases hlt : q < NN
          · by_cases hqs : q = sN
            · subst hqs
              go_wp2_with fail
              go_roundw
              case measure => simp [Go.RowKit.intOf]; omega
              case rel => exact ⟨q + 1, by omega, by go_num, _, rfl⟩
            · have hne : ((q : Int) != (sN : Int)) = true := bne_iff_ne.2 (by omega)
              have d1 := HD3.out.mine (wv_at (W := D) (j := q) (by rw [HOK.out.dlen]; exact hlt))
              by_cases h1 : gn D q < farV
              · have hby : gbl Lb q = true := by
                  obtain ⟨i, hi, e1, e2, e3⟩ := HOK.out.by_ q hlt hqs h1
                  have := HBY.out i hi e2 (by rw [e1]; exact e3)
                  rw [e1] at this
                  exact this
                have mb : Mine y.now ⟨gb, q, none⟩ (.bool true) := by
                  have := (HOW.out.row).1.mine (bv_at (L := Lb) (j := q) (by rw [HLB.out]; exact hlt))
                  rw [hby] at this
                  exact this
                have hb1 : decide ((gn D q : Int) < 4611686018427387904) = true := decide_eq_true (by unfold farV at h1; omega)
                clear h1 hby hqs
                generalize gn D q = dq at *
                go_wp2_with fail
                go_roundw
                case measure => simp [Go.RowKit.intOf]; omega
                case rel => exact ⟨q + 1, by omega, by go_num, _, rfl⟩
              · have hb1 : decide ((gn D q : Int) < 4611686018427387904) = false := decide_eq_false (by unfold farV at h1; omega)
                clear h1 hqs
                generalize gn D q = dq at *
                go_wp2_with fail
                go_roundw
                case measure => simp [Go.RowKit.intOf]; omega
                case rel => exact ⟨q + 1, by omega, by go_num, _, rfl⟩
          · obtain rfl : q = NN := by omega
            clear hq hlt HOW HBY
            by_cases ht0 : t < 0
            · go_wp2_with (go_at_call 25; refine (alive14 _).mono ?_; rintro e w' ⟨rfl, hg⟩; obtain ⟨x5, rfl⟩ := Grows.later2 hg; clear hg)
              go_ret
              exact ⟨rfl, hw3.trans (y.grows.trans (by repeat (first | exact Grows.refl _ | refine Grows.now ?_ _ | refine Grows.new ?_ _ | refine Grows.drewN ?_ _ | refine Grows.drew ?_ | assumption | (refine Grows.set ?_ (by first | omega | (simp; done) | (simp; omega)) _))))⟩
            · by_cases ht1 : (q : Int) ≤ t
              · go_wp2_with (go_at_call 25; refine (alive14 _).mono ?_; rintro e w' ⟨rfl, hg⟩; obtain ⟨x5, rfl⟩ := Grows.later2 hg; clear hg)
                go_ret
                exact ⟨rfl, hw3.trans (y.grows.trans (by repeat (first | exact Grows.refl _ | refine Grows.now ?_ _ | refine Grows.new ?_ _ | refine Grows.drewN ?_ _ | refine Grows.drew ?_ | assumption | (refine Grows.set ?_ (by first | omega | (simp; done) | (simp; omega)) _))))⟩
              · obtain ⟨tN, rfl⟩ : ∃ tN : Nat, t = (tN : Int) := ⟨t.toNat, by omega⟩
                have htN : tN < q := by omega
                obtain ⟨D2, ⟨hl2, hv2⟩, C5⟩ := K5.out tN htN
                have H5 := hide C5
                have d1 := HD3.out.mine (wv_at (W := D) (j := tN) (by rw [HOK.out.dlen]; exact htN))
                rw [← hv2] at d1
                have HL2 := hide hl2
                clear hv2 hl2 C5 K5
                go_wp2_with fail
                refine (H5.out _ (hw3.trans (y.grows.trans (by repeat (first | exact Grows.refl _ | refine Grows.now ?_ _ | refine Grows.new ?_ _ | refine Grows.drewN ?_ _ | refine Grows.drew ?_ | assumption | (refine Grows.set ?_ (by first | omega | (simp; done) | (simp; omega)) _)))))).mono ?_; rintro e w' ⟨go2, rfl, hrow, _, hg⟩; obtain ⟨x5, rfl⟩ := Grows.later2 hg
                have d2 := hrow.mine (wv_at (W := D2) (j := sN) (by rw [HL2.out]; exact hsNN))
                clear hg hrow H5
                generalize gn D2 sN = v2 at *
                go_upto_region 26 with fail
                ((first | refine wp_region_gen (by kernel_rfl) (by kernel_rfl) ?_); (repeat' (first | (refine gLex_val0 rfl (by kernel_rfl) (fun K hK => ?_); (go_simp; (try (simp only [↓IntWalk.iteOmega]; try go_simp)); (try simp (disch := omega) only [IntWalk.i64_in]); (try simp (disch := omega) only [IntWalk.u64_in]); first | (refine hK _ ?_; clear hK K) | (apply Exists.intro; refine ⟨fun x => ?_, hK _ ?_⟩; (first | (go_at_call 25; exact alive14 _)); clear hK K))) | (refine gLex_undef rfl rfl rfl (by kernel_rfl) (fun K hK => ?_); go_simp; refine hK _ ?_; clear hK K) | (refine gLex_ask rfl rfl rfl ?_; first | (apply gAsk_yes; kernel_rfl; intro K hK; (go_simp; (try (simp only [↓IntWalk.iteOmega]; try go_simp)); (try simp (disch := omega) only [IntWalk.i64_in]); (try simp (disch := omega) only [IntWalk.u64_in]); first | (refine hK _ ?_; clear hK K) | (apply Exists.intro; refine ⟨fun x => ?_, hK _ ?_⟩; (first | (go_at_call 25; exact alive14 _)); clear hK K))) | ((first | apply gAsk_no1 | apply gAsk_no2); kernel_rfl; intro K hK; simp [go_sem]; refine hK _ ?_; clear hK K) | (apply gAsk_part; kernel_rfl; all_goals (intro h K hK; (try simp only [Bool.not_true] at h); (try simp only [Bool.not_false] at h); (try simp only [decide_eq_true_eq] at h); (try simp only [decide_eq_false_iff_not] at h); first | (exfalso; first | contradiction | omega) | (go_simp; (try (simp only [↓IntWalk.iteOmega]; try go_simp)); (try simp (disch := omega) only [IntWalk.i64_in]); (try simp (disch := omega) only [IntWalk.u64_in]); first | (refine hK _ ?_; clear hK K) | (apply Exists.intro; refine ⟨fun x => ?_, hK _ ?_⟩; (first | (go_at_call 25; exact alive14 _)); clear hK K))))))); all_goals ((apply gLex_end); intro x6))
                go_wp2_with fail
                go_ret
                exact ⟨rfl, hw3.trans (y.grows.trans (by repeat (first | exact Grows.refl _ | refine Grows.now ?_ _ | refine Grows.new ?_ _ | refine Grows.drewN ?_ _ | refine Grows.drew ?_ | assumption | (refine Grows.set ?_ (by first | omega | (simp; done) | (simp; omega)) _))))⟩
  · have C1 := fun (W1 : World) (g : Grows w W1) => djAllNo N s A n c E false (.slice none 0 0) (.slice none 0 0) B m d 0 W W1 (h.grows g) (h'.grows g) hn hm hd
    have C2 := fun (W1 : World) => law14Of false (.slice none 0 0) (.slice none 0 0) ⟨_, _, _, rfl⟩ ⟨_, _, _, rfl⟩ B m d 0 W1
    have C3 := fun (W1 : World) (g : Grows w W1) => r14Check N s A n c E false (.slice none 0 0) (.slice none 0 0) B m d 0 W W1 (h.grows g) (h'.grows g) hn hm
    unfold oVal at C1 C2 C3
    have hr2 : (dcF N s E W == 0) = false := beq_eq_false_iff_ne.2 hd
    generalize dcF N s E W = r at *
    have K1 := hide C1
    have K2 := hide C2
    have K3 := hide C3
    clear C1 C2 C3 h h'
    go_enter Try.func5, Try.ntmps5
    go_wp2_with (first | (go_at_call 24; refine (H1.out _).mono ?_; rintro e w' ⟨rfl, hg⟩; obtain ⟨x1, rfl⟩ := hg.later; clear hg) | (go_at_call 26; refine (K1.out _ (by repeat (first | exact Grows.refl _ | refine Grows.now ?_ _ | refine Grows.new ?_ _ | refine Grows.drewN ?_ _ | refine Grows.drew ?_ | assumption | (refine Grows.set ?_ (by first | omega | (simp; done) | (simp; omega)) _)))).mono ?_; rintro e w' ⟨rfl, hg⟩; obtain ⟨x2, rfl⟩ := Grows.later2 hg; clear hg))
    ((first | refine wp_region_gen2 (by kernel_rfl) (by kernel_rfl) ?_ | refine wp_region_gen (by kernel_rfl) (by kernel_rfl) ?_); (repeat' (first | (refine gLex_val0 rfl (by kernel_rfl) (fun K hK => ?_); (go_simp; (try (simp only [↓IntWalk.iteOmega]; try go_simp)); (try simp (disch := omega) only [IntWalk.i64_in]); (try simp (disch := omega) only [IntWalk.u64_in]); first | (refine hK _ ?_; clear hK K) | (apply Exists.intro; refine ⟨fun x => ?_, hK _ ?_⟩; (first | (go_at_call 28; exact K2.out _) | (go_at_call 27; exact K3.out _ (by repeat (first | exact Grows.refl _ | refine Grows.now ?_ _ | refine Grows.new ?_ _ | refine Grows.drewN ?_ _ | refine Grows.drew ?_ | assumption | (refine Grows.set ?_ (by first | omega | (simp; done) | (simp; omega)) _)))) | (go_at_call 25; exact alive14 _)); clear hK K))) | (refine gLex_undef rfl rfl rfl (by kernel_rfl) (fun K hK => ?_); go_simp; refine hK _ ?_; clear hK K) | (refine gLex_ask rfl rfl rfl ?_; first | (apply gAsk_yes; kernel_rfl; intro K hK; (go_simp; (try (simp only [↓IntWalk.iteOmega]; try go_simp)); (try simp (disch := omega) only [IntWalk.i64_in]); (try simp (disch := omega) only [IntWalk.u64_in]); first | (refine hK _ ?_; clear hK K) | (apply Exists.intro; refine ⟨fun x => ?_, hK _ ?_⟩; (first | (go_at_call 28; exact K2.out _) | (go_at_call 27; exact K3.out _ (by repeat (first | exact Grows.refl _ | refine Grows.now ?_ _ | refine Grows.new ?_ _ | refine Grows.drewN ?_ _ | refine Grows.drew ?_ | assumption | (refine Grows.set ?_ (by first | omega | (simp; done) | (simp; omega)) _)))) | (go_at_call 25; exact alive14 _)); clear hK K))) | ((first | apply gAsk_no1 | apply gAsk_no2); kernel_rfl; intro K hK; simp [go_sem]; refine hK _ ?_; clear hK K) | (apply gAsk_part; kernel_rfl; all_goals (intro h K hK; (try simp only [Bool.not_true] at h); (try simp only [Bool.not_false] at h); (try simp only [decide_eq_true_eq] at h); (try simp only [decide_eq_false_iff_not] at h); first | (exfalso; first | contradiction | omega) | (go_simp; (try (simp only [↓IntWalk.iteOmega]; try go_simp)); (try simp (disch := omega) only [IntWalk.i64_in]); (try simp (disch := omega) only [IntWalk.u64_in]); first | (refine hK _ ?_; clear hK K) | (apply Exists.intro; refine ⟨fun x => ?_, hK _ ?_⟩; (first | (go_at_call 28; exact K2.out _) | (go_at_call 27; exact K3.out _ (by repeat (first | exact Grows.refl _ | refine Grows.now ?_ _ | refine Grows.new ?_ _ | refine Grows.drewN ?_ _ | refine Grows.drew ?_ | assumption | (refine Grows.set ?_ (by first | omega | (simp; done) | (simp; omega)) _)))) | (go_at_call 25; exact alive14 _)); clear hK K))))))); all_goals ((apply gLex_end); intro x3))
    go_wp2_with fail
    go_ret
    exact ⟨rfl, (by repeat (first | exact Grows.refl _ | refine Grows.now ?_ _ | refine Grows.new ?_ _ | refine Grows.drewN ?_ _ | refine Grows.drew ?_ | assumption | (refine Grows.set ?_ (by first | omega | (simp; done) | (simp; omega)) _)))⟩
end Go.Proofs.Ytpnncadglhlclaa
