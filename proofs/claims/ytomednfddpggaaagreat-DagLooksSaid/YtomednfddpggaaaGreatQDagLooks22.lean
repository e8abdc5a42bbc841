/- Contract: the edges that are on all shortest ways, by the program. -/
import Derived.Test.YtomednfddpggaaaGreatQDagLooks17
import Derived.Test.YtomednfddpggaaaGreatQDagLooks20
import Derived.Test.YtomednfddpggaaaGreatQDagLooks21
import Derived.Test.YtomednfddpggaaaGreatQDagLooks19
import Derived.Test.YtomednfddpggaaaGreatQDagLooks09
import Derived.Test.YtomednfddpggaaaGreatQDagLooks00
import Derived.Test.YtomednfddpggaaaGreatQDagLooks02
/- Contract: the edges that are on all shortest ways, by the program. -/
namespace Go.Proofs.YtomednfddpggaaaGreat
open Go Go.RowKit
attribute [local go_sem] Oper.semAt_some
def brgL (ov : Nat → Bool) (L : List Nat) : List Int := (L.filter fun i => !ov i).map fun (i : Nat) => (i : Int)
theorem brgL_yes {ov : Nat → Bool} {L : List Nat} {k : Nat} (hk : k < L.length) (h : ov (gn L k) = false) : brgL ov (L.take (k + 1)) = brgL ov (L.take k) ++ [(gn L k : Int)] := by
  have e : L.take (k + 1) = L.take k ++ [gn L k] := by
    rw [List.take_succ_eq_append_getElem hk]
    simp [gn, hk]
  unfold brgL
  rw [e]
  simp [h]
theorem brgL_no {ov : Nat → Bool} {L : List Nat} {k : Nat} (hk : k < L.length) (h : ov (gn L k) = true) : brgL ov (L.take (k + 1)) = brgL ov (L.take k) := by
  have e : L.take (k + 1) = L.take k ++ [gn L k] := by
    rw [List.take_succ_eq_append_getElem hk]
    simp [gn, hk]
  unfold brgL
  rw [e]
  simp [h]
theorem brgL_len (ov : Nat → Bool) (L : List Nat) : (brgL ov L).length ≤ L.length := by
  unfold brgL
  rw [List.length_map]
  exact List.length_filter_le _ _
set_option maxRecDepth 40000 in
set_option maxHeartbeats 8000000 in
theorem dagBridges (b N s t : Nat) (E : List Edg) (T F : List Nat) (ol : List Int) (w : World) (h : DgAt w b N s t E T F ol) (hr : rightF N E = 0) (ht : t < N) (hT : ∀ v, gn T v ≤ farV) (hF : ∀ v, gn F v ≤ farV) :
    Calls Tryz.prog 17 #[.pointer (some ⟨b, 0, none⟩)] w fun e w' => ∃ A' c', e = .returned (.slice A' (brgL (ovL E T (onP N E T F t)) (fltN (onP N E T F t) E.length)).length c') ∧ Rd w' A' 1 (brgL (ovL E T (onP N E T F t)) (fltN (onP N E T F t) E.length)).length ((brgL (ovL E T (onP N E T F t)) (fltN (onP N E T F t) E.length)).map (.int .i64)) ∧ Grows w w' := by
  have hEl : E.length ≤ 16384 := (right_in hr).2.2.1
  have HK := hide (fun args W => run_callGo (P := Tryz.prog) Tryz.func46 (by kernel_rfl) (by kernel_rfl) args W)
  obtain ⟨W1, hW1⟩ : ∃ W1, W1 = w.alloc (.cells #[.pointer (some ⟨b, 0, none⟩)] 27) := ⟨_, rfl⟩
  have hg1 : Grows w W1 := by rw [hW1]; exact (Grows.refl _).new _
  have a1 : Arr W1 w.heap.size 27 [.pointer (some ⟨b, 0, none⟩)] := by rw [hW1]; exact Arr.make _ _ _
  have CE := hide (fun (W : World) (g : Grows w W) => dagEdges b N s t E T F ol W (h.grow g) hr ht hT hF)
  obtain ⟨L, hL⟩ : ∃ L, L = fltN (onP N E T F t) E.length := ⟨_, rfl⟩
  have hLm : (fltL (onP N E T F t) E.length) = L.map (fun i : Nat => (i : Int)) := by rw [hL]; rfl
  have HLL := hide (show L.length ≤ 16384 from by have := fltL_len (onP N E T F t) E.length; rw [hLm, List.length_map] at this; omega)
  have HLE := hide (show ∀ k, k < L.length → gn L k < E.length from fun k hk => by
    have : gn L k ∈ fltN (onP N E T F t) E.length := by rw [← hL]; simp [gn, hk]
    exact (fltN_lt this).1)
  obtain ⟨r1, r2, _, r4, r5⟩ := right_in hr
  rw [Int.toNat_natCast] at r4
  have HEE := hide (show ∀ k, k < E.length → (ge E k).f = (fN E k : Int) ∧ (ge E k).t = (tN E k : Int) ∧ fN E k < N ∧ tN E k < N from fun k hk => by
    have n1 := r4.f k hk
    have n2 := r4.t k hk
    unfold fN tN
    omega)
  have HDG := hide (h.grow hg1)
  have HOV := hide (fun (i : Nat) => show (L.map (fun i : Nat => (i : Int))).any (fun e => ovB T i e.toNat (fN E e.toNat) (tN E e.toNat) (gn T (fN E i)) (gn T (tN E i))) = ovL E T (onP N E T F t) i from by unfold ovL; rw [hLm])
  have CB := hide (fun (A1 : Option Addr) (c1 i bi bh bl : Nat) (W : World) (g : Grows W1 W) (hRd : Rd W A1 1 (L.map (fun i : Nat => (i : Int))).length ((L.map (fun i : Nat => (i : Int))).map (.int .i64))) (xi : Arr W bi 3 [.int .i64 (i : Int)]) (xh : Arr W bh 38 [.int .u64 (gn T (tN E i) : Int)]) (xl : Arr W bl 38 [.int .u64 (gn T (fN E i) : Int)]) =>
    containsIM A1 (L.map (fun i : Nat => (i : Int))).length c1 (L.map (fun i : Nat => (i : Int))) 46 #[.pointer (some ⟨w.heap.size, 0, none⟩), .pointer (some ⟨bi, 0, none⟩), .pointer (some ⟨bh, 0, none⟩), .pointer (some ⟨bl, 0, none⟩)]
      (fun e => ovB T i e.toNat (fN E e.toNat) (tN E e.toNat) (gn T (fN E i)) (gn T (tN E i))) W hRd (by rw [List.length_map]; have := HLL.out; omega) HK.out (fun W2 g2 e he => by
        obtain ⟨k, hk, rfl⟩ := List.mem_map.1 he
        rw [hL] at hk
        have hk2 := (fltN_lt hk).1
        rw [Int.toNat_natCast]
        exact dagBridges1 b w.heap.size bi bh bl N s t i k (gn T (fN E i)) (gn T (tN E i)) E T F ol W2 (a1.grow (g.trans g2)) (xi.grow g2) (xh.grow g2) (xl.grow g2) (HDG.out.grow (g.trans g2)) hk2 hr))
  rw [hLm] at CE
  simp only [HOV.out] at CB
  rw [← hL]
  obtain ⟨ba, A1, c1, A2, c2, A3, c3, d1, d2, d3, _, _⟩ := h
  have CA := hide (fun (i : Nat) (hi : i < E.length) (W : World) (g : Grows w W) => adjEdge ba N i E W (d2.grows g) hi)
  have hwl := d3.wlen
  obtain ⟨b1, o1, hA1, hc1⟩ : ∃ b off, (0 < N → A1 = some ⟨b, off, none⟩) ∧ (0 < N → ∀ v, v < N → Holds w ⟨b, off + v, none⟩ (.int .u64 (gn T v : Int))) := by
    obtain ⟨_, b1, o1, e, hc⟩ := d3.wvH (by omega)
    exact ⟨b1, o1, fun _ => e, fun _ => hc⟩
  have hA1 := hA1 (by omega)
  subst hA1
  have HC1 := hide (hc1 (by omega))
  have HS := hide hg1.size
  rw [List.length_map] at CE
  clear hT hF HK d2 d3 hg1 a1 hL hLm HOV hr ht r1 r2 r4 r5 hc1 hEl HDG
  generalize ovL E T (onP N E T F t) = ov at *
  go_enter Tryz.func17, Tryz.ntmps17
  go_upto_region 1 with fail
  rw [← hW1]
  have hg1 : Grows w W1 := by rw [hW1]; exact (Grows.refl _).new _
  have a1 : Arr W1 w.heap.size 27 [.pointer (some ⟨b, 0, none⟩)] := by rw [hW1]; exact Arr.make _ _ _
  have d1' := d1.grow hg1
  clear hW1 d1
  go_wp2_with (go_at_call 14; refine (CE.out _ GG).mono ?_; rintro e w' ⟨B1, e1, rfl, hrd, hg⟩; obtain ⟨x0, rfl⟩ := hg.later; have HR := hide hrd; clear hrd hg)
  generalize w.heap.size = bx at *
  go_loopw [15, 2] (fun i u wr => ∃ k : Nat, k ≤ L.length ∧ i = .int .i64 (k : Int) ∧ ∃ y : Later x0.now, wr = y.now ∧ ∃ A1 c1 s1, u = .slice A1 s1 c1 ∧ Hid (s1 = (brgL ov (L.take k)).length) ∧ Own y.now x0.now.heap.size 3 1 A1 s1 c1 ((brgL ov (L.take k)).map (.int .i64))) (fun i _ _ => L.length - (Go.RowKit.intOf i).toNat)
  case atStart => exact ⟨0, by omega, by go_num, ⟨_, Grows.refl _⟩, rfl, none, 0, 0, rfl, rfl, Own.nil _ _ _ _⟩
  case round =>
    obtain ⟨k, hk, rfl, y, rfl, B2, e2, s1, rfl, HS1, hown⟩ := hrel
    have HO := hide hown
    clear hown
    by_cases hlt : k < L.length
    · have hkb : k ≤ 16384 := by have := HLL.out; omega
      have hs1 : s1 ≤ 1000000 := by have := HS1.out; have := brgL_len ov (L.take k); rw [List.length_take] at this; have := HLL.out; omega
      obtain ⟨gB, oB, rfl, hcB⟩ := HR.out.intsH (by omega)
      have k1 := hcB k hlt
      have ek : gi (L.map (fun i : Nat => (i : Int))) k = (gn L k : Int) := by simp [gi, gn, hlt]
      rw [ek] at k1
      have hiE := HLE.out k hlt
      have HNY := hide (fun (h : ov (gn L k) = false) => brgL_yes hlt h)
      have HNN := hide (fun (h : ov (gn L k) = true) => brgL_no hlt h)
      obtain ⟨f1, f2, f3, f4⟩ := HEE.out _ hiE
      have CAk := hide (CA.out _ hiE)
      have CBk := hide (fun bi bh bl W => CB.out (some ⟨gB, oB, none⟩) e1 (gn L k) bi bh bl W)
      unfold eVal at CAk
      rw [f1, f2] at CAk
      have m1 := HC1.out _ f3
      have m2 := HC1.out _ f4
      clear hcB ek f1 f2
      generalize (ge E (gn L k)).w = ew at *
      generalize fN E (gn L k) = f at *
      generalize tN E (gn L k) = u at *
      generalize ov (gn L k) = q at *
      generalize gn L k = i at *
      go_upto_region 5 with fail
      have a5 : Arr (y.now.alloc (.cells #[.int .i64 (i : Int)] 3)) y.now.heap.size 3 [.int .i64 (i : Int)] := Arr.make _ _ _
      have hg5 : Grows y.now (y.now.alloc (.cells #[.int .i64 (i : Int)] 3)) := (Grows.refl _).new _
      have a15 := a1.grow (x0.grows.trans (y.grows.trans hg5))
      have d15 := d1'.grow (x0.grows.trans (y.grows.trans hg5))
      have HO5 := hide (HO.out.grows hg5)
      have HR5 := hide (HR.out.grows (y.grows.trans hg5))
      have m15 := m1.cell
      have m25 := m2.cell
      have hgA := hg1.trans (x0.grows.trans (y.grows.trans hg5))
      have n1 : Holds (y.now.alloc (.cells #[.int .i64 (i : Int)] 3)) ⟨b1, o1 + f, none⟩ (.int .u64 (gn T f : Int)) := ⟨hgA.keeps m15⟩
      have n2 : Holds (y.now.alloc (.cells #[.int .i64 (i : Int)] 3)) ⟨b1, o1 + u, none⟩ (.int .u64 (gn T u : Int)) := ⟨hgA.keeps m25⟩
      have hgB : Grows x0.now (y.now.alloc (.cells #[.int .i64 (i : Int)] 3)) := y.grows.trans hg5
      clear m15 m25 m1 m2 k1 HO HR CA
      generalize y.now.alloc (.cells #[.int .i64 (i : Int)] 3) = W5 at *
      generalize y.now.heap.size = b5 at *
      clear hg5
      obtain ⟨y5, rfl⟩ := hgB.later
      refine wp_region_box (bxS 9 10 7 6 26 59 [.int .i64 0, .int .i64 0, .int .u64 0]) (by kernel_rfl) (by kernel_rfl) (by kernel_rfl) (fun oa os h1 h2 => by injection h1 with h1; injection h2 with h2; subst h1 h2; exact bxS_runs (by kernel_rfl) rfl rfl) ?_
      (repeat' (refine gLexX_val0 rfl (by kernel_rfl) (by kernel_rfl) (fun K hK => ?_); go_simp; (try (simp only [↓IntWalk.iteOmega]; try go_simp)); (try simp (disch := omega) only [IntWalk.i64_in]); (try simp (disch := omega) only [IntWalk.u64_in]); first | (refine hK _ ?_; clear hK K) | (apply Exists.intro; refine ⟨fun x => ?_, hK _ ?_⟩; (first | fail); clear hK K)))
      refine gLexX_prop rfl (by kernel_rfl) (by kernel_rfl) rfl (by simp) (PairQ (fun v _ => v = .agg #[.int .i64 (f : Int), .int .i64 (u : Int), .int .u64 ew]) (.bool true)) (fun x S hS => ?_) ?_
      · go_simp
        refine (CAk.out _ (hgA.trans GG)).mono ?_
        rintro e w' ⟨rfl, hg⟩
        exact ⟨_, rfl, hg, fun w'' ht => ⟨_, rfl, rfl⟩⟩
      refine gLexX_pair (by kernel_rfl) ⟨rfl, rfl, rfl, rfl, rfl, rfl⟩ ⟨rfl, rfl, rfl, rfl, rfl⟩ ⟨rfl, rfl, rfl, rfl, rfl⟩ (by decide) rfl (by decide) rfl (by simp) (by kernel_rfl) (by kernel_rfl) (by kernel_rfl) (by kernel_rfl) (by kernel_rfl) (by kernel_rfl) ?good ?_
      case good =>
        rintro v w1 rfl
        exact ⟨_, rfl, rfl, by simp [Value.oneCell']⟩
      refine gLexX_end (fun v S b6 hb6 => ?_)
      refine AtX.pop rfl (by simp) (fun z1 hz1 => ?_)
      obtain rfl : z1 = _ := hz1
      refine AtX.pop rfl (by simp [Act.put]) (fun z2 _ => ?_)
      refine AtX.pop rfl (by simp [Act.put]) (fun z3 hz3 => ?_)
      obtain rfl : z3 = _ := hz3
      refine AtX.pop rfl (by simp [Act.put]) (fun z4 hz4 => ?_)
      obtain rfl : z4 = _ := hz4
      refine AtX.pop rfl (by simp [Act.put]) (fun z5 _ => ?_)
      refine AtX.pop rfl (by simp [Act.put]) (fun z6 _ => ?_)
      refine AtX.base (by simp [Act.put, bxS]; rfl) (by simp [Act.put, bxS]; rfl) (fun e9 ha6 => ?_)
      subst e9
      simp only [Act.put, List.setIfInBounds_toArray, List.set_cons_zero, List.set_cons_succ]
      have a6 : Arr v.now b6 59 [.int .i64 (f : Int), .int .i64 (u : Int), .int .u64 ew] := ha6
      clear ha6
      have a56 := a5.grow v.grows
      have a16 := a15.grow v.grows
      have d16 := d15.grow v.grows
      have HO6 := hide (HO5.out.grows v.grows)
      have HR6 := hide (HR5.out.grows v.grows)
      have n16 : Holds v.now ⟨b1, o1 + f, none⟩ (.int .u64 (gn T f : Int)) := inferInstance
      have n26 : Holds v.now ⟨b1, o1 + u, none⟩ (.int .u64 (gn T u : Int)) := inferInstance
      have hgC := hgB.trans v.grows
      clear a5 a15 d15 HO5 HR5 n1 n2 hgA CAk hb6
      generalize v.now = W6 at *
      obtain ⟨y6, rfl⟩ := hgC.later
      go_upto_region 6 with fail
      obtain ⟨lo, hlo⟩ : ∃ q : Int, (gn T f : Int) = q := ⟨_, rfl⟩
      obtain ⟨hi, hhi⟩ : ∃ q : Int, (gn T u : Int) = q := ⟨_, rfl⟩
      rw [hlo] at n16
      rw [hhi] at n26
      have HLO := hide hlo
      have HHI := hide hhi
      clear hlo hhi
      obtain ⟨VV, hVV⟩ : ∃ V : Nat × Nat → Nat → Value, V = fun c j => ([.pointer (some ⟨b, 0, none⟩), .pointer (some ⟨b, 0, none⟩), .pointer (some ⟨b, 3, none⟩), .slice (some ⟨b1, o1, none⟩) N c1, .pointer (some ⟨b6, 0, none⟩), .int .i64 (f : Int), .pointer (some ⟨b1, o1 + f, none⟩), .int .u64 lo,
        .pointer (some ⟨b, 0, none⟩), .pointer (some ⟨b, 0, none⟩), .pointer (some ⟨b, 3, none⟩), .slice (some ⟨b1, o1, none⟩) N c1, .pointer (some ⟨b6, 1, none⟩), .int .i64 (u : Int), .pointer (some ⟨b1, o1 + u, none⟩), .int .u64 hi,
        .pointer (some ⟨c.1, 0, none⟩), .pointer (some ⟨c.2, 0, none⟩), undef, undef] : List Value).getD j undef := ⟨_, rfl⟩
      have m60 := a6.mine 0 rfl
      have m61 := a6.mine 1 rfl
      refine wp_region_some (by kernel_rfl) (by kernel_rfl) (by kernel_rfl) (by kernel_rfl) (by kernel_rfl) VV
        (fun c D w1 => Grows y6.now w1 ∧ (D 16 = true → y6.now.heap.size ≤ c.1 ∧ Arr w1 c.1 38 [if D 18 = true then .int .u64 lo else .int .u64 0]) ∧ (D 17 = true → y6.now.heap.size ≤ c.2 ∧ Arr w1 c.2 38 [if D 19 = true then .int .u64 hi else .int .u64 0]) ∧ (D 16 = true → D 17 = true → c.1 ≠ c.2))
        (0, 0) ⟨(Grows.refl _).drew, fun h => absurd h (by simp), fun h => absurd h (by simp), fun h => absurd h (by simp)⟩ ?hs ?he
      case hs =>
        subst hVV
        intro c a hV hO i oo ho D hcl hD hpre w1 hM
        obtain ⟨hgx, h8, h9, hne⟩ := hM
        obtain ⟨x, rfl⟩ := hgx.later
        match i, ho, hD, hpre with
        | 0, ho, hD, hpre =>
          cases (show some _ = some oo from ho)
          have e1 := ev_nfK ((hO 1 (notDstK (by kernel_rfl))).trans rfl)
          refine runsTo_mono (Q := fun uu w1 => w1 = x.now ∧ uu = (.pointer (some ⟨b, 0, none⟩) : Value)) ?_ (fun uu w1 ⟨h1, h2⟩ => ⟨c, ⟨by rw [h1]; exact x.grows, by rw [h1]; simpa using h8, by rw [h1]; simpa using h9, by simpa using hne⟩, fun _ _ _ => rfl, .inr h2⟩)
          clear h8 h9 hne
          go_simp
          all_goals exact ⟨rfl, rfl⟩
        | 1, ho, hD, hpre =>
          cases (show some _ = some oo from ho)
          have e28 := ev_nfK (hV 0 28 rfl)
          refine runsTo_mono (Q := fun uu w1 => w1 = x.now ∧ uu = (.pointer (some ⟨b, 0, none⟩) : Value)) ?_ (fun uu w1 ⟨h1, h2⟩ => ⟨c, ⟨by rw [h1]; exact x.grows, by rw [h1]; simpa using h8, by rw [h1]; simpa using h9, by simpa using hne⟩, fun _ _ _ => rfl, .inr h2⟩)
          clear h8 h9 hne
          go_simp
          all_goals exact ⟨rfl, rfl⟩
        | 2, ho, hD, hpre =>
          cases (show some _ = some oo from ho)
          have e29 := ev_nfK (hV 1 29 rfl)
          refine runsTo_mono (Q := fun uu w1 => w1 = x.now ∧ uu = (.pointer (some ⟨b, 3, none⟩) : Value)) ?_ (fun uu w1 ⟨h1, h2⟩ => ⟨c, ⟨by rw [h1]; exact x.grows, by rw [h1]; simpa using h8, by rw [h1]; simpa using h9, by simpa using hne⟩, fun _ _ _ => rfl, .inr h2⟩)
          clear h8 h9 hne
          go_simp
          all_goals exact ⟨rfl, rfl⟩
        | 3, ho, hD, hpre =>
          cases (show some _ = some oo from ho)
          have e30 := ev_nfK (hV 2 30 rfl)
          refine runsTo_mono (Q := fun uu w1 => w1 = x.now ∧ uu = (.slice (some ⟨b1, o1, none⟩) N c1 : Value)) ?_ (fun uu w1 ⟨h1, h2⟩ => ⟨c, ⟨by rw [h1]; exact x.grows, by rw [h1]; simpa using h8, by rw [h1]; simpa using h9, by simpa using hne⟩, fun _ _ _ => rfl, .inr h2⟩)
          clear h8 h9 hne
          go_simp
          all_goals exact ⟨rfl, rfl⟩
        | 4, ho, hD, hpre =>
          cases (show some _ = some oo from ho)
          have e6 := ev_nfK ((hO 6 (notDstK (by kernel_rfl))).trans rfl)
          refine runsTo_mono (Q := fun uu w1 => w1 = x.now ∧ uu = (.pointer (some ⟨b6, 0, none⟩) : Value)) ?_ (fun uu w1 ⟨h1, h2⟩ => ⟨c, ⟨by rw [h1]; exact x.grows, by rw [h1]; simpa using h8, by rw [h1]; simpa using h9, by simpa using hne⟩, fun _ _ _ => rfl, .inr h2⟩)
          clear h8 h9 hne
          go_simp
          all_goals exact ⟨rfl, rfl⟩
        | 5, ho, hD, hpre =>
          cases (show some _ = some oo from ho)
          have e32 := ev_nfK (hV 4 32 rfl)
          refine runsTo_mono (Q := fun uu w1 => w1 = x.now ∧ uu = (.int .i64 (f : Int) : Value)) ?_ (fun uu w1 ⟨h1, h2⟩ => ⟨c, ⟨by rw [h1]; exact x.grows, by rw [h1]; simpa using h8, by rw [h1]; simpa using h9, by simpa using hne⟩, fun _ _ _ => rfl, .inr h2⟩)
          clear h8 h9 hne
          go_simp
          all_goals exact ⟨rfl, rfl⟩
        | 6, ho, hD, hpre =>
          cases (show some _ = some oo from ho)
          have e31 := ev_nfK (hV 3 31 rfl)
          have e33 := ev_nfK (hV 5 33 rfl)
          refine runsTo_mono (Q := fun uu w1 => w1 = x.now ∧ uu = (.pointer (some ⟨b1, o1 + f, none⟩) : Value)) ?_ (fun uu w1 ⟨h1, h2⟩ => ⟨c, ⟨by rw [h1]; exact x.grows, by rw [h1]; simpa using h8, by rw [h1]; simpa using h9, by simpa using hne⟩, fun _ _ _ => rfl, .inr h2⟩)
          clear h8 h9 hne
          go_simp
          all_goals exact ⟨rfl, rfl⟩
        | 7, ho, hD, hpre =>
          cases (show some _ = some oo from ho)
          have e34 := ev_nfK (hV 6 34 rfl)
          refine runsTo_mono (Q := fun uu w1 => w1 = x.now ∧ uu = (.int .u64 lo : Value)) ?_ (fun uu w1 ⟨h1, h2⟩ => ⟨c, ⟨by rw [h1]; exact x.grows, by rw [h1]; simpa using h8, by rw [h1]; simpa using h9, by simpa using hne⟩, fun _ _ _ => rfl, .inr h2⟩)
          clear h8 h9 hne
          go_simp
          all_goals exact ⟨rfl, rfl⟩
        | 8, ho, hD, hpre =>
          cases (show some _ = some oo from ho)
          have e1 := ev_nfK ((hO 1 (notDstK (by kernel_rfl))).trans rfl)
          refine runsTo_mono (Q := fun uu w1 => w1 = x.now ∧ uu = (.pointer (some ⟨b, 0, none⟩) : Value)) ?_ (fun uu w1 ⟨h1, h2⟩ => ⟨c, ⟨by rw [h1]; exact x.grows, by rw [h1]; simpa using h8, by rw [h1]; simpa using h9, by simpa using hne⟩, fun _ _ _ => rfl, .inr h2⟩)
          clear h8 h9 hne
          go_simp
          all_goals exact ⟨rfl, rfl⟩
        | 9, ho, hD, hpre =>
          cases (show some _ = some oo from ho)
          have e36 := ev_nfK (hV 8 36 rfl)
          refine runsTo_mono (Q := fun uu w1 => w1 = x.now ∧ uu = (.pointer (some ⟨b, 0, none⟩) : Value)) ?_ (fun uu w1 ⟨h1, h2⟩ => ⟨c, ⟨by rw [h1]; exact x.grows, by rw [h1]; simpa using h8, by rw [h1]; simpa using h9, by simpa using hne⟩, fun _ _ _ => rfl, .inr h2⟩)
          clear h8 h9 hne
          go_simp
          all_goals exact ⟨rfl, rfl⟩
        | 10, ho, hD, hpre =>
          cases (show some _ = some oo from ho)
          have e37 := ev_nfK (hV 9 37 rfl)
          refine runsTo_mono (Q := fun uu w1 => w1 = x.now ∧ uu = (.pointer (some ⟨b, 3, none⟩) : Value)) ?_ (fun uu w1 ⟨h1, h2⟩ => ⟨c, ⟨by rw [h1]; exact x.grows, by rw [h1]; simpa using h8, by rw [h1]; simpa using h9, by simpa using hne⟩, fun _ _ _ => rfl, .inr h2⟩)
          clear h8 h9 hne
          go_simp
          all_goals exact ⟨rfl, rfl⟩
        | 11, ho, hD, hpre =>
          cases (show some _ = some oo from ho)
          have e38 := ev_nfK (hV 10 38 rfl)
          refine runsTo_mono (Q := fun uu w1 => w1 = x.now ∧ uu = (.slice (some ⟨b1, o1, none⟩) N c1 : Value)) ?_ (fun uu w1 ⟨h1, h2⟩ => ⟨c, ⟨by rw [h1]; exact x.grows, by rw [h1]; simpa using h8, by rw [h1]; simpa using h9, by simpa using hne⟩, fun _ _ _ => rfl, .inr h2⟩)
          clear h8 h9 hne
          go_simp
          all_goals exact ⟨rfl, rfl⟩
        | 12, ho, hD, hpre =>
          cases (show some _ = some oo from ho)
          have e6 := ev_nfK ((hO 6 (notDstK (by kernel_rfl))).trans rfl)
          refine runsTo_mono (Q := fun uu w1 => w1 = x.now ∧ uu = (.pointer (some ⟨b6, 1, none⟩) : Value)) ?_ (fun uu w1 ⟨h1, h2⟩ => ⟨c, ⟨by rw [h1]; exact x.grows, by rw [h1]; simpa using h8, by rw [h1]; simpa using h9, by simpa using hne⟩, fun _ _ _ => rfl, .inr h2⟩)
          clear h8 h9 hne
          go_simp
          all_goals exact ⟨rfl, rfl⟩
        | 13, ho, hD, hpre =>
          cases (show some _ = some oo from ho)
          have e40 := ev_nfK (hV 12 40 rfl)
          refine runsTo_mono (Q := fun uu w1 => w1 = x.now ∧ uu = (.int .i64 (u : Int) : Value)) ?_ (fun uu w1 ⟨h1, h2⟩ => ⟨c, ⟨by rw [h1]; exact x.grows, by rw [h1]; simpa using h8, by rw [h1]; simpa using h9, by simpa using hne⟩, fun _ _ _ => rfl, .inr h2⟩)
          clear h8 h9 hne
          go_simp
          all_goals exact ⟨rfl, rfl⟩
        | 14, ho, hD, hpre =>
          cases (show some _ = some oo from ho)
          have e39 := ev_nfK (hV 11 39 rfl)
          have e41 := ev_nfK (hV 13 41 rfl)
          refine runsTo_mono (Q := fun uu w1 => w1 = x.now ∧ uu = (.pointer (some ⟨b1, o1 + u, none⟩) : Value)) ?_ (fun uu w1 ⟨h1, h2⟩ => ⟨c, ⟨by rw [h1]; exact x.grows, by rw [h1]; simpa using h8, by rw [h1]; simpa using h9, by simpa using hne⟩, fun _ _ _ => rfl, .inr h2⟩)
          clear h8 h9 hne
          go_simp
          all_goals exact ⟨rfl, rfl⟩
        | 15, ho, hD, hpre =>
          cases (show some _ = some oo from ho)
          have e42 := ev_nfK (hV 14 42 rfl)
          refine runsTo_mono (Q := fun uu w1 => w1 = x.now ∧ uu = (.int .u64 hi : Value)) ?_ (fun uu w1 ⟨h1, h2⟩ => ⟨c, ⟨by rw [h1]; exact x.grows, by rw [h1]; simpa using h8, by rw [h1]; simpa using h9, by simpa using hne⟩, fun _ _ _ => rfl, .inr h2⟩)
          clear h8 h9 hne
          go_simp
          all_goals exact ⟨rfl, rfl⟩
        | 16, ho, hD, hpre =>
          cases (show some _ = some oo from ho)
          have h16 : D 16 = false := hD
          have h18 : D 18 = false := by
            cases hd : D 18 with
            | false => rfl
            | true => exact absurd (hcl 18 16 hd (by kernel_rfl)) (by rw [hD]; exact Bool.false_ne_true)
          have h4 : Grows x.now (x.now.alloc (.cells #[.int .u64 0] 38)) := (Grows.refl _).new _
          refine runsTo_mono (Q := fun u w1 => w1 = x.now.alloc (.cells #[.int .u64 0] 38) ∧ u = (.pointer (some ⟨x.now.heap.size, 0, none⟩) : Value)) ?_ (fun u w1 ⟨h5, h1⟩ => ⟨(x.now.heap.size, c.2), ⟨by rw [h5]; exact x.grows.trans h4, fun _ => ⟨x.size, by simpa [h5, h18] using Arr.make x.now [.int .u64 0] 38⟩, fun hd => ⟨(h9 (by simpa using hd)).1, by simpa [h5] using (h9 (by simpa using hd)).2.grow h4⟩, fun _ hd => Nat.ne_of_gt (h9 (by simpa using hd)).2.lt⟩, fun j _ hDj => ?_, .inr h1⟩)
          · clear h8 h9 hne
            go_simp
            all_goals exact ⟨rfl, rfl⟩
          · match j, hDj with
            | 0, _ => rfl
            | 1, _ => rfl
            | 2, _ => rfl
            | 3, _ => rfl
            | 4, _ => rfl
            | 5, _ => rfl
            | 6, _ => rfl
            | 7, _ => rfl
            | 8, _ => rfl
            | 9, _ => rfl
            | 10, _ => rfl
            | 11, _ => rfl
            | 12, _ => rfl
            | 13, _ => rfl
            | 14, _ => rfl
            | 15, _ => rfl
            | 16, hDj => exact absurd hDj (by rw [h16]; exact Bool.false_ne_true)
            | 17, _ => rfl
            | 18, _ => rfl
            | 19, _ => rfl
            | n + 20, _ => rfl
        | 17, ho, hD, hpre =>
          cases (show some _ = some oo from ho)
          have h17 : D 17 = false := hD
          have h19 : D 19 = false := by
            cases hd : D 19 with
            | false => rfl
            | true => exact absurd (hcl 19 17 hd (by kernel_rfl)) (by rw [hD]; exact Bool.false_ne_true)
          have h4 : Grows x.now (x.now.alloc (.cells #[.int .u64 0] 38)) := (Grows.refl _).new _
          refine runsTo_mono (Q := fun u w1 => w1 = x.now.alloc (.cells #[.int .u64 0] 38) ∧ u = (.pointer (some ⟨x.now.heap.size, 0, none⟩) : Value)) ?_ (fun u w1 ⟨h5, h1⟩ => ⟨(c.1, x.now.heap.size), ⟨by rw [h5]; exact x.grows.trans h4, fun hd => ⟨(h8 (by simpa using hd)).1, by simpa [h5] using (h8 (by simpa using hd)).2.grow h4⟩, fun _ => ⟨x.size, by simpa [h5, h19] using Arr.make x.now [.int .u64 0] 38⟩, fun hd _ => Nat.ne_of_lt (h8 (by simpa using hd)).2.lt⟩, fun j _ hDj => ?_, .inr h1⟩)
          · clear h8 h9 hne
            go_simp
            all_goals exact ⟨rfl, rfl⟩
          · match j, hDj with
            | 0, _ => rfl
            | 1, _ => rfl
            | 2, _ => rfl
            | 3, _ => rfl
            | 4, _ => rfl
            | 5, _ => rfl
            | 6, _ => rfl
            | 7, _ => rfl
            | 8, _ => rfl
            | 9, _ => rfl
            | 10, _ => rfl
            | 11, _ => rfl
            | 12, _ => rfl
            | 13, _ => rfl
            | 14, _ => rfl
            | 15, _ => rfl
            | 16, _ => rfl
            | 17, hDj => exact absurd hDj (by rw [h17]; exact Bool.false_ne_true)
            | 18, _ => rfl
            | 19, _ => rfl
            | n + 20, _ => rfl
        | 18, ho, hD, hpre =>
          cases (show some _ = some oo from ho)
          have e8 := ev_nfK (hV 16 8 rfl)
          have e35 := ev_nfK (hV 7 35 rfl)
          have h18 : D 18 = false := hD
          have h16 : D 16 = true := hpre 16 (by kernel_rfl)
          obtain ⟨q1, q2⟩ := h8 h16
          rw [h18, if_neg Bool.false_ne_true] at q2
          have t0 := q2.mine 0 rfl
          have q3 := q2.set 0 (.int .u64 lo)
          have h4 := x.grows.set (p := ⟨c.1, 0, none⟩) q1 (.int .u64 lo)
          refine runsTo_mono (Q := fun u w2 => w2 = x.now.setCell ⟨c.1, 0, none⟩ (.int .u64 lo)) ?_ (fun u w2 h1 => ⟨c, ⟨by rw [h1]; exact h4, fun _ => ⟨q1, by simpa [h1] using q3⟩, fun hd => ⟨(h9 (by simpa using hd)).1, by simpa [h1] using (h9 (by simpa using hd)).2.other (p := ⟨c.1, 0, none⟩) (hne h16 (by simpa using hd)) (.int .u64 lo)⟩, by simpa using hne⟩, fun _ _ _ => rfl, .inl rfl⟩)
          clear h8 h9 hne q2 q3 h4
          go_simp
          all_goals rfl
        | 19, ho, hD, hpre =>
          cases (show some _ = some oo from ho)
          have e9 := ev_nfK (hV 17 9 rfl)
          have e43 := ev_nfK (hV 15 43 rfl)
          have h19 : D 19 = false := hD
          have h17 : D 17 = true := hpre 17 (by kernel_rfl)
          obtain ⟨q1, q2⟩ := h9 h17
          rw [h19, if_neg Bool.false_ne_true] at q2
          have t0 := q2.mine 0 rfl
          have q3 := q2.set 0 (.int .u64 hi)
          have h4 := x.grows.set (p := ⟨c.2, 0, none⟩) q1 (.int .u64 hi)
          refine runsTo_mono (Q := fun u w2 => w2 = x.now.setCell ⟨c.2, 0, none⟩ (.int .u64 hi)) ?_ (fun u w2 h1 => ⟨c, ⟨by rw [h1]; exact h4, fun hd => ⟨(h8 (by simpa using hd)).1, by simpa [h1] using (h8 (by simpa using hd)).2.other (p := ⟨c.2, 0, none⟩) (Ne.symm (hne (by simpa using hd) h17)) (.int .u64 hi)⟩, fun _ => ⟨q1, by simpa [h1] using q3⟩, by simpa using hne⟩, fun _ _ _ => rfl, .inl rfl⟩)
          clear h8 h9 hne q2 q3 h4
          go_simp
          all_goals rfl
        | n + 20, ho, hD, hpre => cases ho
      case he =>
        rintro ⟨b8, b9⟩ w1 ⟨hgx, h8, h9, hne⟩
        obtain ⟨hb8, h8⟩ := h8 rfl
        obtain ⟨hb9, h9⟩ := h9 rfl
        simp only [if_pos] at h8 h9
        subst hVV
        simp only [putAll, dstOf, List.length_cons, List.length_nil, Nat.reduceAdd, List.getElem?_cons_zero, List.getElem?_cons_succ, Option.bind_some, List.getD_cons_zero, List.getD_cons_succ, Act.put, List.setIfInBounds_toArray, List.set_cons_zero, List.set_cons_succ]
        have a57 := a56.grow hgx
        have a17 := a16.grow hgx
        have HO7 := hide (HO6.out.grows hgx)
        have HR7 := hide (HR6.out.grows hgx)
        have hgD := hgC.trans hgx
        rw [← HLO.out] at h8
        rw [← HHI.out] at h9
        have CBB := hide (CBk.out b5 b9 b8 w1 (x0.grows.trans hgD) (by rw [List.length_map]; exact HR7.out) a57 h9 h8)
        rw [List.length_map] at CBB
        clear h8 h9 hne hb8 hb9 m60 m61 a6 a56 a16 d16 HO6 HR6 n16 n26 HLO HHI CBk
        clear hgx
        obtain ⟨y7, rfl⟩ := hgD.later
        cases q with
        | false =>
          have HNX := hide (HNY.out rfl)
          clear HNY HNN
          go_wp2_with (first
            | (go_at_call 45; refine (CBB.out).mono ?_; rintro e w' ⟨rfl, hg⟩; obtain ⟨x8, rfl⟩ := hg.later; clear hg)
            | (at_builtin; refine wp_app1M elemInt rfl _ _ rfl x0.now GG s1 e2 B2 _ rfl (HO7.out.grows GG) _ _ _ rfl inferInstance rfl (by omega) ?_; intro A9 c9 y9 hown9 hgr9; have HO9 := hide hown9; clear hown9 hgr9))
          go_roundw
          case measure => simp [Go.RowKit.intOf]; omega
          case rel => exact ⟨k + 1, by omega, by go_num, y9, rfl, A9, c9, s1 + 1, rfl, by show s1 + 1 = _; rw [HNX.out, List.length_append, ← HS1.out]; rfl, by rw [HNX.out, List.map_append]; exact HO9.out⟩
        | true =>
          have HNX := hide (HNN.out rfl)
          clear HNY HNN
          go_wp2_with (go_at_call 45; refine (CBB.out).mono ?_; rintro e w' ⟨rfl, hg⟩; obtain ⟨x8, rfl⟩ := hg.later; clear hg)
          obtain ⟨y9, hy9⟩ := (y7.grows.trans (show Grows y7.now x8.now from GG)).later
          refine ⟨⟨k + 1, by omega, by go_num, y9, hy9, B2, e2, s1, rfl, by show s1 = _; rw [HNX.out]; exact HS1.out, ?_⟩, by simp [Go.RowKit.intOf]; omega⟩
          rw [← hy9, HNX.out]
          exact HO7.out.grows (show Grows y7.now x8.now from GG)
    · obtain rfl : L.length = k := by omega
      go_wp2_with fail
      rw [List.take_length] at HS1 HO
      rw [← HS1.out]
      go_ret
      exact ⟨B2, e2, rfl, HO.out.rd, hg1.trans (x0.grows.trans y.grows)⟩
end Go.Proofs.YtomednfddpggaaaGreat

/- Regions that draw their order: an operation that reads one value which hangs on the world, and leaves a value that is known; the end where such values are left. -/
namespace Go.Proofs.YtomednfddpggaaaGreat
open Go Go.RowKit
section
variable {P : Program} {w0 : World} {ops : Array Oper} {Q : Act → Env → Prop} {a : Act} {G : Env} {o : Oper} {rest : List Oper}
theorem dep_exec {a' : Act} {t0 : Tmp} {v : Value} (h5 : ∀ cs b, o.op ≠ .select cs b) (ht0 : t0 < a.tmps.size) (hv : a'.tmps[t0]? = some v) (h : ∀ t ∈ o.looksAt ops, t = t0 ∨ a'.tmps[t]? = a.tmps[t]?) : execOp a'.eval o = execOp (a.put (some t0) v).eval o := by
  refine execOp_congr o h5 fun x hx => ?_
  cases x with
  | tmp t =>
    have ht : t ∈ o.looksAt ops := List.mem_append_left _ (List.mem_filterMap.2 ⟨.tmp t, by simpa using hx, rfl⟩)
    have h' : a'.tmps[t]? = (a.put (some t0) v).tmps[t]? := by
      by_cases e : t = t0
      · subst e
        rw [hv]
        simp [Act.put, ht0]
      · rw [(h t ht).resolve_left e]
        simp [Act.put, Array.getElem?_setIfInBounds_ne (Ne.symm e)]
    simp only [Act.eval, Array.getD_eq_getD_getElem?, h']
  | _ => rfl
theorem gLex_depV {t0 : Tmp} {p0 : Pr} (hw : Region.wanted o (yielded ops a.tmps) = true) (hp : depB ops o G t0 = true) (h0 : G t0 = some p0) (ht0 : t0 < a.tmps.size) (v : Value)
    (hr : ∀ (x : Later w0) (u : Value), p0 u x.now → runsTo P (fun u' w' => Grows x.now w' ∧ u' = v) ((execOp (a.put (some t0) u).eval o).run P x.now))
    (h : gLex P ops w0 Q rest (a.put o.dst v) G) : gLex P ops w0 Q (o :: rest) a G := by
  obtain ⟨h1, h2, h3, h4, h5⟩ := dep_spec hp
  refine ⟨.inl v, ⟨h1, h2, .inl ⟨hw, trivial, trivial, fun w hw a' ha' => ?_⟩⟩, ?_⟩
  · have hv := ha' t0 h4
    unfold relAt at hv
    rw [h0] at hv
    obtain ⟨u, hv, hpv⟩ := hv
    rw [dep_exec h5 ht0 hv (fun t ht => (h3 t ht).imp id (fun e => by
      have h6 := ha' t ht
      unfold relAt at h6
      rw [e] at h6
      exact h6))]
    exact hr ⟨w, hw⟩ u hpv
  · have : putG G o.dst (.inl v) = G := by cases o.dst <;> rfl
    rw [this]
    exact h
def AtA (Q : Exit → Act → World → Prop) (a : Act) (G : Env) (w' : World) : Prop := ∀ a', Conc G a a' w' → Q .normal a' w'
theorem AtA.pop {Q : Exit → Act → World → Prop} {w' : World} {t : Tmp} {p : Pr} (hG : G t = none) (ht : t < a.tmps.size) (h : ∀ v, p v w' → AtA Q (a.put (some t) v) G w') : AtA Q a (G.upd t p) w' := fun a' hc => by
  obtain ⟨v, hv⟩ := conc_upd hc ht
  rcases hv with ⟨hp, hc2⟩ | hne
  · exact h v hp a' hc2
  · exact absurd hG hne
theorem AtA.base {Q : Exit → Act → World → Prop} {w' : World} (h : Q .normal a w') : AtA Q a Env.no w' := fun a' hc => by rw [conc_no hc]; exact h
theorem gLex_endA {Q : Exit → Act → World → Prop} (h : ∀ x : Later w0, AtA Q a G x.now) : gLex P ops w0 (fun a G => ∀ w', Grows w0 w' → ∀ a', Conc G a a' w' → Q .normal a' w') [] a G := fun w' hw a' hc => h ⟨w', hw⟩ a' hc
end
end Go.Proofs.YtomednfddpggaaaGreat

/- Regions that draw their order: an operation that reads two values which hang on the world, and leaves a value that is known. -/
namespace Go.Proofs.YtomednfddpggaaaGreat
open Go Go.RowKit
section
variable {P : Program} {w0 : World} {ops : Array Oper} {Q : Act → Env → Prop} {a : Act} {G : Env} {o : Oper} {rest : List Oper}
def depB2 (ops : Array Oper) (o : Oper) (G : Env) (t1 t2 : Tmp) : Bool :=
  ((o.looksAt ops).all fun t => t == t1 || t == t2 || (G t).isNone) && (o.looksAt ops).contains t1 && (o.looksAt ops).contains t2 && (match o.dst with | some d => (G d).isNone | none => true) && (match o.op with | .select .. => false | _ => true) &&
    (match o.guard with | some (g, _) => (match (ops[g]?).bind (·.dst) with | some t => t != t1 && t != t2 | none => true) | none => true)
theorem dep_spec2 {t1 t2 : Tmp} (h : depB2 ops o G t1 t2 = true) : guardFree ops o G ∧ dstFree o G ∧ (∀ t ∈ o.looksAt ops, t = t1 ∨ t = t2 ∨ G t = none) ∧ t1 ∈ o.looksAt ops ∧ t2 ∈ o.looksAt ops ∧ ∀ cs b, o.op ≠ .select cs b := by
  unfold depB2 at h
  simp only [Bool.and_eq_true, List.all_eq_true, Bool.or_eq_true, Option.isNone_iff_eq_none, beq_iff_eq, List.contains_iff_mem] at h
  obtain ⟨⟨⟨⟨⟨h1, h2⟩, h2'⟩, h3⟩, h4⟩, h5⟩ := h
  refine ⟨fun g b t e1 e2 => ?_, fun d e => ?_, fun t ht => (by rcases h1 t ht with (e | e) | e; exact .inl e; exact .inr (.inl e); exact .inr (.inr e)), h2, h2', fun cs b e => ?_⟩
  · rcases h1 t (mem_looks_guard e1 e2) with (e | e) | e
    · rw [e1] at h5
      simp only [e2] at h5
      subst e
      simp at h5
    · rw [e1] at h5
      simp only [e2] at h5
      subst e
      simp at h5
    · exact e
  · rw [e] at h3; simpa using h3
  · rw [e] at h4; simp at h4
theorem dep_exec2 {a' : Act} {t1 t2 : Tmp} {v1 v2 : Value} (h5 : ∀ cs b, o.op ≠ .select cs b) (ht1 : t1 < a.tmps.size) (ht2 : t2 < a.tmps.size) (hne : t1 ≠ t2) (hv1 : a'.tmps[t1]? = some v1) (hv2 : a'.tmps[t2]? = some v2) (h : ∀ t ∈ o.looksAt ops, t = t1 ∨ t = t2 ∨ a'.tmps[t]? = a.tmps[t]?) :
    execOp a'.eval o = execOp ((a.put (some t1) v1).put (some t2) v2).eval o := by
  refine execOp_congr o h5 fun x hx => ?_
  cases x with
  | tmp t =>
    have ht : t ∈ o.looksAt ops := List.mem_append_left _ (List.mem_filterMap.2 ⟨.tmp t, by simpa using hx, rfl⟩)
    have h' : a'.tmps[t]? = ((a.put (some t1) v1).put (some t2) v2).tmps[t]? := by
      by_cases e2 : t = t2
      · subst e2
        rw [hv2]
        simp [Act.put, ht2]
      · by_cases e : t = t1
        · subst e
          rw [hv1]
          show some v1 = (((a.tmps.setIfInBounds t v1).setIfInBounds t2 v2))[t]?
          rw [Array.getElem?_setIfInBounds_ne (Ne.symm e2)]
          simp [ht1]
        · rw [((h t ht).resolve_left e).resolve_left e2]
          simp [Act.put, Array.getElem?_setIfInBounds_ne (Ne.symm e), Array.getElem?_setIfInBounds_ne (Ne.symm e2)]
    simp only [Act.eval, Array.getD_eq_getD_getElem?, h']
  | _ => rfl
theorem gLex_depV2 {t1 t2 : Tmp} {p1 p2 : Pr} (hw : Region.wanted o (yielded ops a.tmps) = true) (hp : depB2 ops o G t1 t2 = true) (h1 : G t1 = some p1) (h2 : G t2 = some p2) (ht1 : t1 < a.tmps.size) (ht2 : t2 < a.tmps.size) (hne : t1 ≠ t2) (v : Value)
    (hr : ∀ (x : Later w0) (u1 u2 : Value), p1 u1 x.now → p2 u2 x.now → runsTo P (fun u' w' => Grows x.now w' ∧ u' = v) ((execOp ((a.put (some t1) u1).put (some t2) u2).eval o).run P x.now))
    (h : gLex P ops w0 Q rest (a.put o.dst v) G) : gLex P ops w0 Q (o :: rest) a G := by
  obtain ⟨k1, k2, k3, k4, k4', k5⟩ := dep_spec2 hp
  refine ⟨.inl v, ⟨k1, k2, .inl ⟨hw, trivial, trivial, fun w hw a' ha' => ?_⟩⟩, ?_⟩
  · have hv1 := ha' t1 k4
    have hv2 := ha' t2 k4'
    unfold relAt at hv1 hv2
    rw [h1] at hv1
    rw [h2] at hv2
    obtain ⟨u1, hv1, hp1⟩ := hv1
    obtain ⟨u2, hv2, hp2⟩ := hv2
    rw [dep_exec2 k5 ht1 ht2 hne hv1 hv2 (fun t ht => (k3 t ht).imp id (fun e => e.imp id (fun e => by
      have h6 := ha' t ht
      unfold relAt at h6
      rw [e] at h6
      exact h6)))]
    exact hr ⟨w, hw⟩ u1 u2 hp1 hp2
  · have : putG G o.dst (.inl v) = G := by cases o.dst <;> rfl
    rw [this]
    exact h
theorem gLex_propG {t : Tmp} (hw : Region.wanted o (yielded ops a.tmps) = true) (hp : plainB ops o G = true) (hd : o.dst = some t) (hlt : t < a.tmps.size)
    (p : Pr) (hl : Lasts p) (hr : ∀ x : Later w0, runsTo P (fun u w' => Grows x.now w' ∧ p u w') ((execOp a.eval o).run P x.now))
    (h : gLex P ops w0 Q rest a (G.upd t p)) : gLex P ops w0 Q (o :: rest) a G := by
  obtain ⟨h1, h2, h3, h4⟩ := plain_spec hp
  refine ⟨.inr p, ⟨h1, h2, .inl ⟨hw, hl, ⟨t, hd, hlt⟩, fun w hw a' ha' => ?_⟩⟩, ?_⟩
  · rw [exec_same h4 h3 ha']
    exact hr ⟨w, hw⟩
  · rw [hd]
    exact h
def AtB (Q : Exit → Act → World → Prop) (a : Act) (G : Env) (w' : World) : Prop := ∀ a', Conc G a a' w' → Q .normal a' w'
theorem AtB.pop {Q : Exit → Act → World → Prop} {w' : World} {t : Tmp} {p : Pr} (hG : G t = none) (ht : t < a.tmps.size) (h : ∀ v, p v w' → AtB Q (a.put (some t) v) G w') : AtB Q a (G.upd t p) w' := fun a' hc => by
  obtain ⟨v, hv⟩ := conc_upd hc ht
  rcases hv with ⟨hp, hc2⟩ | hne
  · exact h v hp a' hc2
  · exact absurd hG hne
theorem AtB.base {Q : Exit → Act → World → Prop} {w' : World} (h : Q .normal a w') : AtB Q a Env.no w' := fun a' hc => by rw [conc_no hc]; exact h
theorem gLex_endB {Q : Exit → Act → World → Prop} (h : ∀ x : Later w0, AtB Q a G x.now) : gLex P ops w0 (fun a G => ∀ w', Grows w0 w' → ∀ a', Conc G a a' w' → Q .normal a' w') [] a G := fun w' hw a' hc => h ⟨w', hw⟩ a' hc
end
def BRow (n : Nat) (L : List Bool) : Pr := fun u w => ∃ g, u = .slice (some ⟨g, 0, none⟩) n n ∧ Arr w g 4 (L.map .bool)
theorem BRow.lasts (n : Nat) (L : List Bool) : Lasts (BRow n L) := fun _ _ _ hg ⟨g, e, h⟩ => ⟨g, e, h.grow hg⟩
end Go.Proofs.YtomednfddpggaaaGreat

/- Contracts: how many shortest ways there are, by the program; the chapter's example. -/
namespace Go.Proofs.YtomednfddpggaaaGreat
open Go Go.RowKit
attribute [local go_sem] Oper.semAt_some
def URow (N : Nat) (L : List Nat) : Pr := fun u w => ∃ g, u = .slice (some ⟨g, 0, none⟩) N N ∧ Arr w g 38 (wv L)
theorem URow.lasts (N : Nat) (L : List Nat) : Lasts (URow N L) := fun _ _ _ hg ⟨g, e, h⟩ => ⟨g, e, h.grow hg⟩
set_option maxRecDepth 40000 in
set_option maxHeartbeats 8000000 in
theorem dagCount (b N s t : Nat) (mo : Int) (E : List Edg) (T F : List Nat) (vs : List Nat) (w : World) (h : DgAt w b N s t E T F (vs.map fun v : Nat => (v : Int))) (hr : rightF N E = 0) (hs : s < N) (ht : t < N) (hT : ∀ v, gn T v ≤ farV) (hF : ∀ v, gn F v ≤ farV) (hvs : ∀ v ∈ vs, v < N) (hvl : vs.length ≤ 1000000) :
    Calls Tryz.prog 30 #[.pointer (some ⟨b, 0, none⟩), .int .u64 mo] w fun e w' => e = .returned (.int .u64 (min (gn (ctL N E (onP N E T F t) vs (ct0 N s)) t : Int) mo)) ∧ Grows w w' := by
  have CC := hide (fun (W : World) (g : Grows w W) => dagCounts b N s t E T F vs W (h.grow g) hr hs ht hT hF hvs hvl)
  have CN := hide (fun (a b : Int) (W : World) => numCap a b W)
  have HL := hide (show (ctL N E (onP N E T F t) vs (ct0 N s)).length = N from (CtOk.zero N s).all.len)
  obtain ⟨ba, A1, c1, A2, c2, A3, c3, d1, _⟩ := h
  generalize ctL N E (onP N E T F t) vs (ct0 N s) = L at *
  obtain ⟨x, hx⟩ : ∃ x : Int, (gn L t : Int) = x := ⟨_, rfl⟩
  rw [hx]
  have HX := hide hx
  clear hr hT hF hvs hx
  go_enter Tryz.func30, Tryz.ntmps30
  go_upto_region 3 with fail
  refine wp_region_gen (by kernel_rfl) (by kernel_rfl) ?_
  (repeat' (first | (refine gLex_val0 rfl (by kernel_rfl) (fun K hK => ?_); (go_simp; (try (simp only [↓IntWalk.iteOmega]; try go_simp)); (try simp (disch := omega) only [IntWalk.i64_in]); (try simp (disch := omega) only [IntWalk.u64_in]); first | (refine hK _ ?_; clear hK K) | (apply Exists.intro; refine ⟨fun x => ?_, hK _ ?_⟩; (first | fail); clear hK K))) | (refine gLex_undef rfl rfl rfl (by kernel_rfl) (fun K hK => ?_); go_simp; refine hK _ ?_; clear hK K) | (refine gLex_ask rfl rfl rfl ?_; first | (apply gAsk_yes; kernel_rfl; intro K hK; (go_simp; (try (simp only [↓IntWalk.iteOmega]; try go_simp)); (try simp (disch := omega) only [IntWalk.i64_in]); (try simp (disch := omega) only [IntWalk.u64_in]); first | (refine hK _ ?_; clear hK K) | (apply Exists.intro; refine ⟨fun x => ?_, hK _ ?_⟩; (first | fail); clear hK K))) | ((first | apply gAsk_no1 | apply gAsk_no2); kernel_rfl; intro K hK; simp [go_sem]; refine hK _ ?_; clear hK K))))
  refine gLex_prop rfl (by kernel_rfl) rfl (by simp) (URow N L) (URow.lasts N L) (fun y => by
    go_simp
    refine (CC.out _ GG).mono ?_
    rintro e w' ⟨g, rfl, ha, hg⟩
    exact ⟨_, rfl, hg, g, rfl, ha⟩) ?_
  (repeat' (first | (refine gLex_val0 rfl (by kernel_rfl) (fun K hK => ?_); (go_simp; (try (simp only [↓IntWalk.iteOmega]; try go_simp)); (try simp (disch := omega) only [IntWalk.i64_in]); (try simp (disch := omega) only [IntWalk.u64_in]); first | (refine hK _ ?_; clear hK K) | (apply Exists.intro; refine ⟨fun x => ?_, hK _ ?_⟩; (first | fail); clear hK K))) | (refine gLex_undef rfl rfl rfl (by kernel_rfl) (fun K hK => ?_); go_simp; refine hK _ ?_; clear hK K) | (refine gLex_ask rfl rfl rfl ?_; first | (apply gAsk_yes; kernel_rfl; intro K hK; (go_simp; (try (simp only [↓IntWalk.iteOmega]; try go_simp)); (try simp (disch := omega) only [IntWalk.i64_in]); (try simp (disch := omega) only [IntWalk.u64_in]); first | (refine hK _ ?_; clear hK K) | (apply Exists.intro; refine ⟨fun x => ?_, hK _ ?_⟩; (first | fail); clear hK K))) | ((first | apply gAsk_no1 | apply gAsk_no2); kernel_rfl; intro K hK; simp [go_sem]; refine hK _ ?_; clear hK K))))
  refine gLex_dep (t0 := 8) (by kernel_rfl) (by kernel_rfl) rfl (by simp) rfl (by simp) (fun u' w' => ∃ g, u' = .pointer (some ⟨g, t, none⟩) ∧ Arr w' g 38 (wv L)) (fun _ _ _ hg ⟨gd, e, h⟩ => ⟨gd, e, h.grow hg⟩) (fun y u' hu' => by
    obtain ⟨g, rfl, ha⟩ := hu'
    go_simp
    all_goals first | exact ⟨Grows.refl _, g, rfl, ha⟩ | exact ⟨g, rfl, ha⟩) ?_
  refine gLex_depV (t0 := 13) (by kernel_rfl) (by kernel_rfl) rfl (by simp) (.int .u64 x) (fun y u' hu' => by
    obtain ⟨g, rfl, ha⟩ := hu'
    have c2 := ha.mine t (wv_at (by rw [HL.out]; exact ht))
    rw [HX.out] at c2
    go_simp
    all_goals first | exact ⟨Grows.refl _, rfl⟩ | rfl) ?_
  simp only [Act.put, List.setIfInBounds_toArray, List.set_cons_zero, List.set_cons_succ]
  (repeat' (first | (refine gLex_val0 rfl (by kernel_rfl) (fun K hK => ?_); (go_simp; (try (simp only [↓IntWalk.iteOmega]; try go_simp)); (try simp (disch := omega) only [IntWalk.i64_in]); (try simp (disch := omega) only [IntWalk.u64_in]); first | (refine hK _ ?_; clear hK K) | (apply Exists.intro; refine ⟨fun x => ?_, hK _ ?_⟩; (first | (go_at_call 57; exact CN.out _ _ _)); clear hK K))) | (refine gLex_undef rfl rfl rfl (by kernel_rfl) (fun K hK => ?_); go_simp; refine hK _ ?_; clear hK K) | (refine gLex_ask rfl rfl rfl ?_; first | (apply gAsk_yes; kernel_rfl; intro K hK; (go_simp; (try (simp only [↓IntWalk.iteOmega]; try go_simp)); (try simp (disch := omega) only [IntWalk.i64_in]); (try simp (disch := omega) only [IntWalk.u64_in]); first | (refine hK _ ?_; clear hK K) | (apply Exists.intro; refine ⟨fun x => ?_, hK _ ?_⟩; (first | (go_at_call 57; exact CN.out _ _ _)); clear hK K))) | ((first | apply gAsk_no1 | apply gAsk_no2); kernel_rfl; intro K hK; simp [go_sem]; refine hK _ ?_; clear hK K))))
  refine gLex_endB (fun x8 => ?_)
  refine AtB.pop rfl (by simp [Act.put]) (fun z1 _ => ?_)
  refine AtB.pop rfl (by simp [Act.put]) (fun z2 _ => ?_)
  refine AtB.base ?_
  simp only [Act.put, List.setIfInBounds_toArray, List.set_cons_zero, List.set_cons_succ]
  go_wp2_with fail
  go_ret
  exact ⟨rfl, GG⟩
def exDag : List Edg := [⟨0, 1, 1⟩, ⟨0, 1, 1⟩]
theorem exDag_T : DsF 2 exDag 0 = [0, 1] := by decide +kernel
theorem exDag_F : BkF 2 exDag 1 = [1, 0] := by decide +kernel
theorem exDag_c (vs : List Nat) (h : vs = [0, 1] ∨ vs = [1, 0]) : gn (ctL 2 exDag (onP 2 exDag [0, 1] [1, 0] 1) vs (ct0 2 0)) 1 = 2 := by
  rcases h with rfl | rfl <;> decide +kernel
theorem exDag_b : brgL (ovL exDag [0, 1] (onP 2 exDag [0, 1] [1, 0] 1)) (fltN (onP 2 exDag [0, 1] [1, 0] 1) exDag.length) = [] := by decide +kernel
theorem exDag_o {ol : List Int} (h : OlOk 2 exDag 0 1 ol) : ∃ vs : List Nat, ol = vs.map (fun v : Nat => (v : Int)) ∧ (vs = [0, 1] ∨ vs = [1, 0]) := by
  obtain ⟨h1, h2, h3⟩ := h
  have m0 := h3 0 (by omega) (by have : gn (DsF 2 exDag 0) 0 ≤ 1 := by rw [exDag_T]; decide
                                 exact this)
  have m1 := h3 1 (by omega) (by have : gn (DsF 2 exDag 0) 1 ≤ 1 := by rw [exDag_T]; decide
                                 exact this)
  match ol, h1, h2, m0, m1 with
  | [], _, _, m0, _ => simp at m0
  | [a], _, _, m0, m1 => simp at m0 m1; omega
  | [a, b], _, _, m0, m1 =>
    simp at m0 m1
    rcases m0 with rfl | rfl
    · rcases m1 with h | rfl
      · omega
      · exact ⟨[0, 1], rfl, .inl rfl⟩
    · rcases m1 with rfl | h
      · exact ⟨[1, 0], rfl, .inr rfl⟩
      · omega
  | a :: b :: c :: l, h1, h2, _, _ =>
    have ha := h2 a (by simp)
    have hb := h2 b (by simp)
    have hc := h2 c (by simp)
    simp at h1
    omega
theorem exDag_le : (∀ v, gn ([0, 1] : List Nat) v ≤ farV) ∧ ∀ v, gn ([1, 0] : List Nat) v ≤ farV := by
  constructor <;> intro v <;> unfold gn farV <;> match v with
  | 0 => decide
  | 1 => decide
  | n + 2 => simp
set_option maxRecDepth 40000 in
set_option maxHeartbeats 8000000 in
theorem alive16 (w : World) : Calls Tryz.prog 7 #[] w fun e w' => e = .returned (.bool true) ∧ Grows w w' := by
  have hr : rightF ((2 : Nat) : Int) exDag = 0 := by decide +kernel
  have CN := hide (fun (W : World) (A : Option Addr) (h : Rd W A 3 2 (esCells exDag)) => show Calls Tryz.prog 8 #[.agg #[.int .i64 2, .slice A 2 2], .int .i64 0, .int .i64 1] W fun e w' =>
      ∃ b vs, e = .returned (.tuple #[.pointer (some ⟨b, 0, none⟩), .int .i64 0]) ∧ (vs = [0, 1] ∨ vs = [1, 0]) ∧ DgAt w' b 2 0 1 exDag [0, 1] [1, 0] (vs.map fun v : Nat => (v : Int)) ∧ Grows W w' from by
    refine (dagNew 2 0 1 A 2 exDag W h hr (by omega) (by omega) (by rw [exDag_T]; decide)).mono ?_
    rintro e w' ⟨b, ol, rfl, h1, h2, hg⟩
    rw [exDag_T] at h1 h2
    rw [exDag_F] at h2
    obtain ⟨vs, rfl, hv⟩ := exDag_o h1
    exact ⟨b, vs, rfl, hv, h2, hg⟩)
  go_enter Tryz.func7, Tryz.ntmps7
  go_wp2_with fail
  refine (CN.out _ _ (Rd.made (w := w) (t := 59) (size := 3) (n := 2) (esCells exDag) rfl)).mono ?_
  rintro e w1 ⟨b, vs, rfl, hv, hd, hg⟩
  have hgw := ((Grows.refl w).new _).trans hg
  obtain ⟨x, rfl⟩ := hgw.later
  have hvs : ∀ v ∈ vs, v < 2 := by rcases hv with rfl | rfl <;> simp
  have hvl : vs.length ≤ 1000000 := by rcases hv with rfl | rfl <;> simp
  have C1 := hide (fun (W : World) (g : Grows x.now W) => by
    have := dagCount b 2 0 1 9 exDag [0, 1] [1, 0] vs W (hd.grow g) hr (by omega) (by omega) exDag_le.1 exDag_le.2 hvs hvl
    rw [exDag_c vs hv] at this
    exact this)
  have C2 := hide (fun (W : World) (g : Grows x.now W) => by
    have := dagBridges b 2 0 1 exDag [0, 1] [1, 0] _ W (hd.grow g) hr (by omega) exDag_le.1 exDag_le.2
    rw [exDag_b] at this
    exact this)
  have C3 := hide (fun (W : World) (g : Grows x.now W) => show Calls Tryz.prog 12 #[.pointer (some ⟨b, 0, none⟩)] W fun e w' => e = .returned (.int .u64 1) ∧ Grows W w' from dagFar b 2 0 1 exDag [0, 1] [1, 0] _ W (hd.grow g) (by omega))
  clear hd hv hvs hvl hg CN hr
  go_wp2_with (first
    | (go_at_call 30; refine (C1.out _ GG).mono ?_; rintro e w' ⟨rfl, hg⟩; obtain ⟨x1, rfl⟩ := hg.later; clear hg)
    | (go_at_call 17; refine (C2.out _ GG).mono ?_; rintro e w' ⟨A', c', rfl, _, hg⟩; obtain ⟨x2, rfl⟩ := hg.later; clear hg)
    | (go_at_call 12; refine (C3.out _ GG).mono ?_; rintro e w' ⟨rfl, hg⟩; obtain ⟨x3, rfl⟩ := hg.later; clear hg))
  go_ret
  exact ⟨rfl, hgw.trans GG⟩
end Go.Proofs.YtomednfddpggaaaGreat
