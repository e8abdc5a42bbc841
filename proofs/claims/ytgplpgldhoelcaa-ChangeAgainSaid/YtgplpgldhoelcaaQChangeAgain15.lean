/- Contracts: the document's answer: is a shortcut an edge, is it two others, is all made of a graph? -/
import Derived.Test.YtgplpgldhoelcaaQChangeAgain12
import Derived.Test.YtgplpgldhoelcaaQChangeAgain13
import Derived.Test.YtgplpgldhoelcaaQChangeAgain01
import Derived.Test.YtgplpgldhoelcaaQChangeAgain07
import Derived.Test.YtgplpgldhoelcaaQChangeAgain11
import Derived.Test.YtgplpgldhoelcaaQChangeAgain14
import Derived.Test.YtgplpgldhoelcaaQChangeAgain05
namespace Go.Proofs.Ytgplpgldhoelcaa
open Go Go.RowKit
attribute [local go_sem] Oper.semAt_some
structure SI where
  f : Int
  t : Int
  w : Int
  e : Int
  a : Int
  b : Int
def siCells (s : SI) : List Value := [.int .i64 s.f, .int .i64 s.t, .int .u64 s.w, .int .i64 s.e, .int .i64 s.a, .int .i64 s.b]
def sis (L : List SI) : List Value := L.flatMap siCells
def si0 : SI := ⟨0, 0, 0, 0, 0, 0⟩
def gsi (L : List SI) (i : Nat) : SI := L.getD i si0
def siVal (s : SI) : Value := .agg #[.int .i64 s.f, .int .i64 s.t, .int .u64 s.w, .int .i64 s.e, .int .i64 s.a, .int .i64 s.b]
def Sc.si (s : Sc) : SI := ⟨s.f, s.t, s.w, s.e, s.a, s.b⟩
theorem sis_of (L : List Sc) : hss L = sis (L.map Sc.si) := by
  unfold hss sis
  rw [List.flatMap_map]
  rfl
theorem gsi_of {L : List Sc} {i : Nat} (h : i < L.length) : gsi (L.map Sc.si) i = (gs L i).si := by
  simp [gsi, gs, List.getD_eq_getElem?_getD, h]
theorem sis_len (L : List SI) : (sis L).length = L.length * 6 := flat_len siCells 6 (fun _ => rfl) L
theorem sis_at (L : List SI) (i j : Nat) (hi : i < L.length) (hj : j < 6) : (sis L)[i * 6 + j]? = (siCells (gsi L i))[j]? := flat_get siCells 6 (fun _ => rfl) si0 L i j hi hj
theorem Rd.siH {w : World} {A : Option Addr} {n : Nat} {L : List SI} (h : Rd w A 6 n (sis L)) (hn : 0 < n) :
    ∃ b off, A = some ⟨b, off, none⟩ ∧ ∀ k, k < n → Holds w ⟨b, off + k * 6, none⟩ (.int .i64 (gsi L k).f) ∧ Holds w ⟨b, off + k * 6 + 1, none⟩ (.int .i64 (gsi L k).t) ∧ Holds w ⟨b, off + k * 6 + 2, none⟩ (.int .u64 (gsi L k).w) ∧
      Holds w ⟨b, off + k * 6 + 3, none⟩ (.int .i64 (gsi L k).e) ∧ Holds w ⟨b, off + k * 6 + 4, none⟩ (.int .i64 (gsi L k).a) ∧ Holds w ⟨b, off + k * 6 + 5, none⟩ (.int .i64 (gsi L k).b) := by
  have hl := h.1
  rw [sis_len] at hl
  obtain ⟨b, off, e, hc⟩ := h.2 hn (by omega)
  have g : ∀ k j u, k < n → j < 6 → (siCells (gsi L k))[j]? = some u → Holds w ⟨b, off + k * 6 + j, none⟩ u := fun k j u hk hj hu => by
    have := hc (k * 6 + j) u (by rw [sis_at L k j (by omega) hj]; exact hu)
    rw [← Nat.add_assoc] at this
    exact ⟨this⟩
  exact ⟨b, off, e, fun k hk => ⟨g k 0 _ hk (by omega) rfl, g k 1 _ hk (by omega) rfl, g k 2 _ hk (by omega) rfl, g k 3 _ hk (by omega) rfl, g k 4 _ hk (by omega) rfl, g k 5 _ hk (by omega) rfl⟩⟩
def edgeSB (E : List Edg) (s : SI) : Bool := decide (0 ≤ s.e ∧ s.e < E.length ∧ s.a = -1 ∧ s.b = -1) && ((ge E s.e.toNat).f == s.f && ((ge E s.e.toNat).t == s.t && (ge E s.e.toNat).w == s.w))
set_option maxHeartbeats 2000000 in
theorem r20edge (N : Int) (A : Option Addr) (n c : Nat) (E : List Edg) (s : SI) (w : World) (h : Rd w A 3 n (esCells E)) (hn : n ≤ 1000000) :
    Calls Try.prog 129 #[.agg #[.int .i64 N, .slice A n c], siVal s] w fun e w' => e = .returned (.bool (edgeSB E s)) ∧ Grows w w' := by
  have hl := h.elen
  have HD : Hid (edgeSB E s = (decide (0 ≤ s.e ∧ s.e < E.length ∧ s.a = -1 ∧ s.b = -1) && ((ge E s.e.toNat).f == s.f && ((ge E s.e.toNat).t == s.t && (ge E s.e.toNat).w == s.w)))) := rfl
  rw [HD.out, hl]
  unfold siVal
  have HR := hide h
  clear h hl HD
  obtain ⟨f, t, wt, e, a, b⟩ := s
  dsimp only
  by_cases hc : 0 ≤ e ∧ e < n ∧ a = -1 ∧ b = -1
  · obtain ⟨h1, h2, rfl, rfl⟩ := hc
    obtain ⟨k, rfl⟩ : ∃ k : Nat, e = (k : Int) := ⟨e.toNat, by omega⟩
    have hk : k < n := by omega
    obtain ⟨bb, off, rfl, hcc⟩ := HR.out.edgesH (by omega)
    obtain ⟨c1, c2, c3⟩ := hcc k hk
    have hd : decide (0 ≤ (k : Int) ∧ (k : Int) < n ∧ (-1 : Int) = -1 ∧ (-1 : Int) = -1) = true := decide_eq_true ⟨h1, h2, rfl, rfl⟩
    rw [hd]
    simp only [Int.toNat_natCast, Bool.true_and]
    clear hcc h1 h2 hd HR
    generalize (ge E k).f = x1 at *
    generalize (ge E k).t = x2 at *
    generalize (ge E k).w = x3 at *
    go_enter Try.func129, Try.ntmps129
    go_wp2_with fail
    all_goals go_ret
    all_goals exact ⟨ret_bool (by first | rfl | (apply bool_ext; simp [*]; try omega)), GG⟩
  · have hd : decide (0 ≤ e ∧ e < n ∧ a = -1 ∧ b = -1) = false := decide_eq_false hc
    rw [hd, Bool.false_and]
    clear hd HR
    have HC := hide hc
    clear hc
    by_cases q1 : e < 0
    · skip
      go_enter Try.func129, Try.ntmps129
      go_wp2_with fail
      go_ret
      exact ⟨rfl, GG⟩
    · by_cases q2 : (n : Int) ≤ e
      · skip
        go_enter Try.func129, Try.ntmps129
        go_wp2_with fail
        go_ret
        exact ⟨rfl, GG⟩
      · by_cases q3 : a = -1
        · have q4 : (b != -1) = true := by
            have := HC.out
            simp only [bne_iff_ne, ne_eq]
            intro e4
            exact this ⟨by omega, by omega, q3, e4⟩
          subst q3
          go_enter Try.func129, Try.ntmps129
          go_wp2_with fail
          go_ret
          exact ⟨rfl, GG⟩
        · have q4 : (a != -1) = true := by simpa using q3
          clear q3
          go_enter Try.func129, Try.ntmps129
          go_wp2_with fail
          go_ret
          exact ⟨rfl, GG⟩
def st6_20 (x : World) (b : Nat) (v0 v1 v2 v3 v4 v5 : Value) : World := ((((((x.setCell ⟨b, 0, none⟩ v0).setCell ⟨b, 1, none⟩ v1).setCell ⟨b, 2, none⟩ v2).setCell ⟨b, 3, none⟩ v3).setCell ⟨b, 4, none⟩ v4).setCell ⟨b, 5, none⟩ v5)
theorem st6_20_touch (x : World) (b : Nat) (v0 v1 v2 v3 v4 v5 : Value) : Touch (fun k => k = b) x (st6_20 x b v0 v1 v2 v3 v4 v5) :=
  ((((((Touch.refl (fun k => k = b) x).set (p := ⟨b, 0, none⟩) (.inl rfl) _).set (p := ⟨b, 1, none⟩) (.inl rfl) _).set (p := ⟨b, 2, none⟩) (.inl rfl) _).set (p := ⟨b, 3, none⟩) (.inl rfl) _).set (p := ⟨b, 4, none⟩) (.inl rfl) _).set (p := ⟨b, 5, none⟩) (.inl rfl) _
theorem st6_20_is {x : World} {b : Nat} {t : TypeId} {u0 u1 u2 u3 u4 u5 : Value} (a : Arr x b t [u0, u1, u2, u3, u4, u5]) (v0 v1 v2 v3 v4 v5 : Value) : Arr (st6_20 x b v0 v1 v2 v3 v4 v5) b t [v0, v1, v2, v3, v4, v5] :=
  ((((((a.set 0 _).set 1 _).set 2 _).set 3 _).set 4 _).set 5 _)
def twoSB (r : List Int) (S : List SI) (i : Nat) : Bool :=
  decide ((gsi S i).e = -1 ∧ 0 ≤ (gsi S i).a ∧ (gsi S i).a < i ∧ 0 ≤ (gsi S i).b ∧ (gsi S i).b < i ∧ (gsi S i).f ≠ (gsi S i).t) &&
  (decide ((gsi S (gsi S i).a.toNat).f = (gsi S i).f ∧ (gsi S (gsi S i).a.toNat).t = (gsi S (gsi S i).b.toNat).f ∧ (gsi S (gsi S i).b.toNat).t = (gsi S i).t ∧ IntKind.u64.wrap ((gsi S (gsi S i).a.toNat).w + (gsi S (gsi S i).b.toNat).w) = (gsi S i).w) &&
  (decide (gi r (gsi S (gsi S i).a.toNat).t.toNat < gi r (gsi S i).f.toNat) && decide (gi r (gsi S (gsi S i).a.toNat).t.toNat < gi r (gsi S i).t.toNat)))
set_option maxRecDepth 20000 in
set_option maxHeartbeats 4000000 in
theorem r20twoNo1 (B A : Option Addr) (m d n c i : Nat) (_ : List Int) (S : List SI) (w : World) (h : Rd w A 6 n (sis S)) (hi : i < n)
    (hc : ¬ ((gsi S i).e = -1 ∧ 0 ≤ (gsi S i).a ∧ (gsi S i).a < i ∧ 0 ≤ (gsi S i).b ∧ (gsi S i).b < i ∧ (gsi S i).f ≠ (gsi S i).t)) :
    Calls Try.prog 130 #[.agg #[.slice B m d, .slice A n c], .int .i64 (i : Int)] w fun e w' => e = .returned (.bool false) ∧ Grows w w' := by
  obtain ⟨bb, off, rfl, hcc⟩ := h.siH (by omega)
  obtain ⟨c1, c2, c3, c4, c5, c6⟩ := hcc i hi
  clear hcc h
  generalize (gsi S i).f = f at *
  generalize (gsi S i).t = t at *
  generalize (gsi S i).w = wt at *
  generalize (gsi S i).e = e at *
  generalize (gsi S i).a = a at *
  generalize (gsi S i).b = b at *
  have HC := hide hc
  clear hc
  by_cases q1 : e = -1
  · subst q1
    by_cases q2 : a < 0
    · skip
      go_enter Try.func130, Try.ntmps130
      go_wp2_with fail
      go_ret
      exact ⟨rfl, GG⟩
    · by_cases q3 : (i : Int) ≤ a
      · skip
        go_enter Try.func130, Try.ntmps130
        go_wp2_with fail
        go_ret
        exact ⟨rfl, GG⟩
      · by_cases q4 : b < 0
        · skip
          go_enter Try.func130, Try.ntmps130
          go_wp2_with fail
          go_ret
          exact ⟨rfl, GG⟩
        · by_cases q5 : (i : Int) ≤ b
          · skip
            go_enter Try.func130, Try.ntmps130
            go_wp2_with fail
            go_ret
            exact ⟨rfl, GG⟩
          · have q6 : (f == t) = true := by
              have := HC.out
              simp only [beq_iff_eq]
              apply Decidable.byContradiction
              intro e4
              exact this ⟨rfl, by omega, by omega, by omega, by omega, e4⟩
            go_enter Try.func130, Try.ntmps130
            go_wp2_with fail
            go_ret
            exact ⟨rfl, GG⟩
  · have q2 : (e != -1) = true := by simpa using q1
    clear q1
    go_enter Try.func130, Try.ntmps130
    go_wp2_with fail
    go_ret
    exact ⟨rfl, GG⟩
set_option maxRecDepth 20000 in
set_option maxHeartbeats 4000000 in
theorem r20two (B A : Option Addr) (m d n c i : Nat) (r : List Int) (S : List SI) (w : World) (h : Rd w A 6 n (sis S)) (hi : i < n) (hr : Rd w B 1 m (r.map (.int .i64))) (hends : ∀ j, j < i → (0 ≤ (gsi S j).f ∧ (gsi S j).f < m) ∧ 0 ≤ (gsi S j).t ∧ (gsi S j).t < m) :
    Calls Try.prog 130 #[.agg #[.slice B m d, .slice A n c], .int .i64 (i : Int)] w fun e w' => e = .returned (.bool (twoSB r S i)) ∧ Grows w w' := by
  unfold twoSB
  by_cases hc : (gsi S i).e = -1 ∧ 0 ≤ (gsi S i).a ∧ (gsi S i).a < i ∧ 0 ≤ (gsi S i).b ∧ (gsi S i).b < i ∧ (gsi S i).f ≠ (gsi S i).t
  · rw [decide_eq_true hc, Bool.true_and]
    obtain ⟨hc1, hc2, hc3, hc4, hc5, hc6⟩ := hc
    obtain ⟨p, hp⟩ : ∃ p : Nat, (gsi S i).a = (p : Int) := ⟨(gsi S i).a.toNat, by omega⟩
    obtain ⟨q, hq⟩ : ∃ q : Nat, (gsi S i).b = (q : Int) := ⟨(gsi S i).b.toNat, by omega⟩
    have hpi : p < i := by omega
    have hqi : q < i := by omega
    obtain ⟨bb, off, rfl, hcc⟩ := h.siH (by omega)
    obtain ⟨c1, c2, c3, c4, c5, c6⟩ := hcc i hi
    obtain ⟨d1, d2, d3, d4, d5, d6⟩ := hcc p (by omega)
    obtain ⟨e1, e2, e3, e4, e5, e6⟩ := hcc q (by omega)
    obtain ⟨⟨x1, x2⟩, x3, x4⟩ := hends p hpi
    obtain ⟨_, y3, y4⟩ := hends q hqi
    rw [hc1] at c4
    rw [hp] at c5
    rw [hq] at c6
    rw [hp, hq, Int.toNat_natCast, Int.toNat_natCast]
    have hft : ((gsi S i).f == (gsi S i).t) = false := by simpa using hc6
    clear hcc hends h hc1 hc2 hc3 hc4 hc5 hc6 hp hq
    generalize (gsi S i).f = f at *
    generalize (gsi S i).t = t at *
    generalize (gsi S i).w = wt at *
    generalize (gsi S p).f = af at *
    generalize (gsi S p).t = at_ at *
    generalize (gsi S p).w = aw at *
    generalize (gsi S q).f = bf at *
    generalize (gsi S q).t = bt at *
    generalize (gsi S q).w = bw at *
    have hpn : p < n := by omega
    have hqn : q < n := by omega
    have HRR := hide hr
    have HX := hide (And.intro (And.intro x1 x2) (And.intro (And.intro x3 x4) (And.intro y3 y4)))
    clear hr x1 x2 x3 x4 y3 y4
    obtain ⟨RR, hRR⟩ : ∃ RR : Bool, RR = (decide (af = f ∧ at_ = bf ∧ bt = t ∧ IntKind.u64.wrap (aw + bw) = wt) && (decide (gi r at_.toNat < gi r f.toNat) && decide (gi r at_.toNat < gi r t.toNat))) := ⟨_, rfl⟩
    rw [← hRR]
    have HRB := hide hRR
    clear hRR
    go_enter Try.func130, Try.ntmps130
    go_upto_region 4 with fail
    have a2 : Arr ((w.alloc (.cells #[.slice B m d, .slice (some ⟨bb, off, none⟩) n c] 63)).alloc (.cells #[.int .i64 f, .int .i64 t, .int .u64 wt, .int .i64 (-1), .int .i64 (p : Int), .int .i64 (q : Int)] 95)) w.heap.size 63 [.slice B m d, .slice (some ⟨bb, off, none⟩) n c] := (Arr.make _ _ _).grow ((Grows.refl _).new _)
    have a5 : Arr ((w.alloc (.cells #[.slice B m d, .slice (some ⟨bb, off, none⟩) n c] 63)).alloc (.cells #[.int .i64 f, .int .i64 t, .int .u64 wt, .int .i64 (-1), .int .i64 (p : Int), .int .i64 (q : Int)] 95)) (w.heap.size + 1) 95 [.int .i64 f, .int .i64 t, .int .u64 wt, .int .i64 (-1), .int .i64 (p : Int), .int .i64 (q : Int)] := by
      have h1 := Arr.make (w.alloc (.cells #[.slice B m d, .slice (some ⟨bb, off, none⟩) n c] 63)) [.int .i64 f, .int .i64 t, .int .u64 wt, .int .i64 (-1), .int .i64 (p : Int), .int .i64 (q : Int)] 95
      simpa using h1
    have hg1 : Grows w ((w.alloc (.cells #[.slice B m d, .slice (some ⟨bb, off, none⟩) n c] 63)).alloc (.cells #[.int .i64 f, .int .i64 t, .int .u64 wt, .int .i64 (-1), .int .i64 (p : Int), .int .i64 (q : Int)] 95)) := ((Grows.refl w).new _).new _
    generalize (w.alloc (.cells #[.slice B m d, .slice (some ⟨bb, off, none⟩) n c] 63)).alloc (.cells #[.int .i64 f, .int .i64 t, .int .u64 wt, .int .i64 (-1), .int .i64 (p : Int), .int .i64 (q : Int)] 95) = W1 at *
    generalize w.heap.size + 1 = b5 at *
    generalize w.heap.size = b2 at *
    obtain ⟨y1, rfl⟩ := hg1.later
    clear hg1
    obtain ⟨VV, hVV⟩ : ∃ V : Nat × Nat → Nat → Value, V = fun k j => ([.pointer (some ⟨b2, 1, none⟩), .slice (some ⟨bb, off, none⟩) n c, .pointer (some ⟨b5, 4, none⟩), .int .i64 (p : Int), .pointer (some ⟨bb, off + p * 6, none⟩), .agg #[.int .i64 af, .int .i64 at_, .int .u64 aw, .int .i64 (gsi S p).e, .int .i64 (gsi S p).a, .int .i64 (gsi S p).b], .pointer (some ⟨b2, 1, none⟩), .slice (some ⟨bb, off, none⟩) n c, .pointer (some ⟨b5, 5, none⟩), .int .i64 (q : Int), .pointer (some ⟨bb, off + q * 6, none⟩), .agg #[.int .i64 bf, .int .i64 bt, .int .u64 bw, .int .i64 (gsi S q).e, .int .i64 (gsi S q).a, .int .i64 (gsi S q).b], .pointer (some ⟨k.1, 0, none⟩), .pointer (some ⟨k.2, 0, none⟩), undef, undef] : List Value).getD j undef := ⟨_, rfl⟩
    refine wp_region_some (by kernel_rfl) (by kernel_rfl) (by kernel_rfl) (by kernel_rfl) (by kernel_rfl) VV
      (fun k D w1 => Grows y1.now w1 ∧ (D 12 = true → y1.now.heap.size ≤ k.1 ∧ Arr w1 k.1 95 (if D 14 = true then [.int .i64 af, .int .i64 at_, .int .u64 aw, .int .i64 (gsi S p).e, .int .i64 (gsi S p).a, .int .i64 (gsi S p).b] else [.int .i64 0, .int .i64 0, .int .u64 0, .int .i64 0, .int .i64 0, .int .i64 0])) ∧ (D 13 = true → y1.now.heap.size ≤ k.2 ∧ Arr w1 k.2 95 (if D 15 = true then [.int .i64 bf, .int .i64 bt, .int .u64 bw, .int .i64 (gsi S q).e, .int .i64 (gsi S q).a, .int .i64 (gsi S q).b] else [.int .i64 0, .int .i64 0, .int .u64 0, .int .i64 0, .int .i64 0, .int .i64 0])) ∧ (D 12 = true → D 13 = true → k.1 ≠ k.2))
      (0, 0) ⟨(Grows.refl _).drew, fun h => absurd h (by simp), fun h => absurd h (by simp), fun h => absurd h (by simp)⟩ ?hs ?he
    case hs =>
      subst hVV
      intro k a hV hO i oo' ho D hcl hD hpre w1 hM
      obtain ⟨hgx, h12, h13, hne⟩ := hM
      obtain ⟨z, rfl⟩ := hgx.later
      match i, ho, hD, hpre with
        | 0, ho, hD, hpre =>
          cases (show some _ = some oo' from ho)
          have e2 := ev_nfK ((hO 2 (notDstK (by kernel_rfl))).trans rfl)
          refine runsTo_mono11 (Q := fun uu w1 => w1 = z.now ∧ uu = (.pointer (some ⟨b2, 1, none⟩) : Value)) ?_ (fun uu w1 ⟨h1, hq⟩ => ⟨k, by subst h1; exact ⟨z.grows, by simpa using h12, by simpa using h13, by simpa using hne⟩, fun _ _ _ => rfl, .inr hq⟩)
          clear h12 h13 hne
          go_simp
          all_goals exact ⟨rfl, rfl⟩
        | 1, ho, hD, hpre =>
          cases (show some _ = some oo' from ho)
          have e46 := ev_nfK (hV 0 46 rfl)
          refine runsTo_mono11 (Q := fun uu w1 => w1 = z.now ∧ uu = (.slice (some ⟨bb, off, none⟩) n c : Value)) ?_ (fun uu w1 ⟨h1, hq⟩ => ⟨k, by subst h1; exact ⟨z.grows, by simpa using h12, by simpa using h13, by simpa using hne⟩, fun _ _ _ => rfl, .inr hq⟩)
          clear h12 h13 hne
          go_simp
          all_goals exact ⟨rfl, rfl⟩
        | 2, ho, hD, hpre =>
          cases (show some _ = some oo' from ho)
          have e5 := ev_nfK ((hO 5 (notDstK (by kernel_rfl))).trans rfl)
          refine runsTo_mono11 (Q := fun uu w1 => w1 = z.now ∧ uu = (.pointer (some ⟨b5, 4, none⟩) : Value)) ?_ (fun uu w1 ⟨h1, hq⟩ => ⟨k, by subst h1; exact ⟨z.grows, by simpa using h12, by simpa using h13, by simpa using hne⟩, fun _ _ _ => rfl, .inr hq⟩)
          clear h12 h13 hne
          go_simp
          all_goals exact ⟨rfl, rfl⟩
        | 3, ho, hD, hpre =>
          cases (show some _ = some oo' from ho)
          have e48 := ev_nfK (hV 2 48 rfl)
          refine runsTo_mono11 (Q := fun uu w1 => w1 = z.now ∧ uu = (.int .i64 (p : Int) : Value)) ?_ (fun uu w1 ⟨h1, hq⟩ => ⟨k, by subst h1; exact ⟨z.grows, by simpa using h12, by simpa using h13, by simpa using hne⟩, fun _ _ _ => rfl, .inr hq⟩)
          clear h12 h13 hne
          go_simp
          all_goals exact ⟨rfl, rfl⟩
        | 4, ho, hD, hpre =>
          cases (show some _ = some oo' from ho)
          have e47 := ev_nfK (hV 1 47 rfl)
          have e49 := ev_nfK (hV 3 49 rfl)
          refine runsTo_mono11 (Q := fun uu w1 => w1 = z.now ∧ uu = (.pointer (some ⟨bb, off + p * 6, none⟩) : Value)) ?_ (fun uu w1 ⟨h1, hq⟩ => ⟨k, by subst h1; exact ⟨z.grows, by simpa using h12, by simpa using h13, by simpa using hne⟩, fun _ _ _ => rfl, .inr hq⟩)
          clear h12 h13 hne
          go_simp
          all_goals exact ⟨rfl, rfl⟩
        | 5, ho, hD, hpre =>
          cases (show some _ = some oo' from ho)
          have e50 := ev_nfK (hV 4 50 rfl)
          refine runsTo_mono11 (Q := fun uu w1 => w1 = z.now ∧ uu = (.agg #[.int .i64 af, .int .i64 at_, .int .u64 aw, .int .i64 (gsi S p).e, .int .i64 (gsi S p).a, .int .i64 (gsi S p).b] : Value)) ?_ (fun uu w1 ⟨h1, hq⟩ => ⟨k, by subst h1; exact ⟨z.grows, by simpa using h12, by simpa using h13, by simpa using hne⟩, fun _ _ _ => rfl, .inr hq⟩)
          clear h12 h13 hne
          go_simp
          all_goals exact ⟨rfl, rfl⟩
        | 6, ho, hD, hpre =>
          cases (show some _ = some oo' from ho)
          have e2 := ev_nfK ((hO 2 (notDstK (by kernel_rfl))).trans rfl)
          refine runsTo_mono11 (Q := fun uu w1 => w1 = z.now ∧ uu = (.pointer (some ⟨b2, 1, none⟩) : Value)) ?_ (fun uu w1 ⟨h1, hq⟩ => ⟨k, by subst h1; exact ⟨z.grows, by simpa using h12, by simpa using h13, by simpa using hne⟩, fun _ _ _ => rfl, .inr hq⟩)
          clear h12 h13 hne
          go_simp
          all_goals exact ⟨rfl, rfl⟩
        | 7, ho, hD, hpre =>
          cases (show some _ = some oo' from ho)
          have e52 := ev_nfK (hV 6 52 rfl)
          refine runsTo_mono11 (Q := fun uu w1 => w1 = z.now ∧ uu = (.slice (some ⟨bb, off, none⟩) n c : Value)) ?_ (fun uu w1 ⟨h1, hq⟩ => ⟨k, by subst h1; exact ⟨z.grows, by simpa using h12, by simpa using h13, by simpa using hne⟩, fun _ _ _ => rfl, .inr hq⟩)
          clear h12 h13 hne
          go_simp
          all_goals exact ⟨rfl, rfl⟩
        | 8, ho, hD, hpre =>
          cases (show some _ = some oo' from ho)
          have e5 := ev_nfK ((hO 5 (notDstK (by kernel_rfl))).trans rfl)
          refine runsTo_mono11 (Q := fun uu w1 => w1 = z.now ∧ uu = (.pointer (some ⟨b5, 5, none⟩) : Value)) ?_ (fun uu w1 ⟨h1, hq⟩ => ⟨k, by subst h1; exact ⟨z.grows, by simpa using h12, by simpa using h13, by simpa using hne⟩, fun _ _ _ => rfl, .inr hq⟩)
          clear h12 h13 hne
          go_simp
          all_goals exact ⟨rfl, rfl⟩
        | 9, ho, hD, hpre =>
          cases (show some _ = some oo' from ho)
          have e54 := ev_nfK (hV 8 54 rfl)
          refine runsTo_mono11 (Q := fun uu w1 => w1 = z.now ∧ uu = (.int .i64 (q : Int) : Value)) ?_ (fun uu w1 ⟨h1, hq⟩ => ⟨k, by subst h1; exact ⟨z.grows, by simpa using h12, by simpa using h13, by simpa using hne⟩, fun _ _ _ => rfl, .inr hq⟩)
          clear h12 h13 hne
          go_simp
          all_goals exact ⟨rfl, rfl⟩
        | 10, ho, hD, hpre =>
          cases (show some _ = some oo' from ho)
          have e53 := ev_nfK (hV 7 53 rfl)
          have e55 := ev_nfK (hV 9 55 rfl)
          refine runsTo_mono11 (Q := fun uu w1 => w1 = z.now ∧ uu = (.pointer (some ⟨bb, off + q * 6, none⟩) : Value)) ?_ (fun uu w1 ⟨h1, hq⟩ => ⟨k, by subst h1; exact ⟨z.grows, by simpa using h12, by simpa using h13, by simpa using hne⟩, fun _ _ _ => rfl, .inr hq⟩)
          clear h12 h13 hne
          go_simp
          all_goals exact ⟨rfl, rfl⟩
        | 11, ho, hD, hpre =>
          cases (show some _ = some oo' from ho)
          have e56 := ev_nfK (hV 10 56 rfl)
          refine runsTo_mono11 (Q := fun uu w1 => w1 = z.now ∧ uu = (.agg #[.int .i64 bf, .int .i64 bt, .int .u64 bw, .int .i64 (gsi S q).e, .int .i64 (gsi S q).a, .int .i64 (gsi S q).b] : Value)) ?_ (fun uu w1 ⟨h1, hq⟩ => ⟨k, by subst h1; exact ⟨z.grows, by simpa using h12, by simpa using h13, by simpa using hne⟩, fun _ _ _ => rfl, .inr hq⟩)
          clear h12 h13 hne
          go_simp
          all_goals exact ⟨rfl, rfl⟩
        | 12, ho, hD, hpre =>
          cases (show some _ = some oo' from ho)
          have n14 : D 14 = false := by
            cases hd : D 14 with
            | false => rfl
            | true => exact absurd (hcl 14 12 hd (by kernel_rfl)) (by rw [hD]; exact Bool.false_ne_true)
          have h4 : Grows z.now (z.now.alloc (.cells #[.int .i64 0, .int .i64 0, .int .u64 0, .int .i64 0, .int .i64 0, .int .i64 0] 95)) := (Grows.refl _).new _
          refine runsTo_mono11 (Q := fun uu w1 => w1 = z.now.alloc (.cells #[.int .i64 0, .int .i64 0, .int .u64 0, .int .i64 0, .int .i64 0, .int .i64 0] 95) ∧ uu = (.pointer (some ⟨z.now.heap.size, 0, none⟩) : Value)) ?_ (fun uu w1 hq => ?_)
          · clear h12 h13 hne
            go_simp
            all_goals exact ⟨rfl, rfl⟩
          · obtain ⟨h8, h1⟩ := hq
            subst h8
            refine ⟨(z.now.heap.size, k.2), ⟨z.grows.trans h4, fun _ => ⟨z.size, by rw [if_neg (by simp [n14])]; exact Arr.make _ _ _⟩, fun hd => ⟨(h13 (by simpa using hd)).1, by have := (h13 (by simpa using hd)).2.grow h4; simpa using this⟩, fun _ hd e => by have := (h13 (by simpa using hd)).2.lt; simp only at e; omega⟩, fun j _ hDj => ?_, .inr h1⟩
            · match j, hDj with
              | 0, _ => rfl
              | 1, _ => rfl
              | 2, _ => rfl
              | 3, _ => rfl
              | 4, _ => rfl
              | 5, _ => rfl
              | 6, _ => rfl
              | 7, _ => rfl
              | 8, _ => rfl
              | 9, _ => rfl
              | 10, _ => rfl
              | 11, _ => rfl
              | 12, hDj => exact absurd hDj (by rw [hD]; exact Bool.false_ne_true)
              | 13, _ => rfl
              | 14, _ => rfl
              | 15, _ => rfl
              | n + 16, _ => rfl
        | 13, ho, hD, hpre =>
          cases (show some _ = some oo' from ho)
          have n15 : D 15 = false := by
            cases hd : D 15 with
            | false => rfl
            | true => exact absurd (hcl 15 13 hd (by kernel_rfl)) (by rw [hD]; exact Bool.false_ne_true)
          have h4 : Grows z.now (z.now.alloc (.cells #[.int .i64 0, .int .i64 0, .int .u64 0, .int .i64 0, .int .i64 0, .int .i64 0] 95)) := (Grows.refl _).new _
          refine runsTo_mono11 (Q := fun uu w1 => w1 = z.now.alloc (.cells #[.int .i64 0, .int .i64 0, .int .u64 0, .int .i64 0, .int .i64 0, .int .i64 0] 95) ∧ uu = (.pointer (some ⟨z.now.heap.size, 0, none⟩) : Value)) ?_ (fun uu w1 hq => ?_)
          · clear h12 h13 hne
            go_simp
            all_goals exact ⟨rfl, rfl⟩
          · obtain ⟨h8, h1⟩ := hq
            subst h8
            refine ⟨(k.1, z.now.heap.size), ⟨z.grows.trans h4, fun hd => ⟨(h12 (by simpa using hd)).1, by have := (h12 (by simpa using hd)).2.grow h4; simpa using this⟩, fun _ => ⟨z.size, by rw [if_neg (by simp [n15])]; exact Arr.make _ _ _⟩, fun hd _ e => by have := (h12 (by simpa using hd)).2.lt; simp only at e; omega⟩, fun j _ hDj => ?_, .inr h1⟩
            · match j, hDj with
              | 0, _ => rfl
              | 1, _ => rfl
              | 2, _ => rfl
              | 3, _ => rfl
              | 4, _ => rfl
              | 5, _ => rfl
              | 6, _ => rfl
              | 7, _ => rfl
              | 8, _ => rfl
              | 9, _ => rfl
              | 10, _ => rfl
              | 11, _ => rfl
              | 12, _ => rfl
              | 13, hDj => exact absurd hDj (by rw [hD]; exact Bool.false_ne_true)
              | 14, _ => rfl
              | 15, _ => rfl
              | n + 16, _ => rfl
        | 14, ho, hD, hpre =>
          cases (show some _ = some oo' from ho)
          have e6 := ev_nfK (hV 12 6 rfl)
          have e51 := ev_nfK (hV 5 51 rfl)
          have d12 : D 12 = true := hpre 12 (by kernel_rfl)
          have n14 : D 14 = false := hD
          have ar := (h12 d12).2
          rw [if_neg (by rw [n14]; exact Bool.false_ne_true)] at ar
          have t0_ := ar.mine 0 rfl
          have t1_ := ar.mine 1 rfl
          have t2_ := ar.mine 2 rfl
          have t3_ := ar.mine 3 rfl
          have t4_ := ar.mine 4 rfl
          have t5_ := ar.mine 5 rfl
          have hk := (h12 d12).1
          have htq := st6_20_touch z.now k.1 (.int .i64 af) (.int .i64 at_) (.int .u64 aw) (.int .i64 (gsi S p).e) (.int .i64 (gsi S p).a) (.int .i64 (gsi S p).b)
          have hgq : Grows y1.now (st6_20 z.now k.1 (.int .i64 af) (.int .i64 at_) (.int .u64 aw) (.int .i64 (gsi S p).e) (.int .i64 (gsi S p).a) (.int .i64 (gsi S p).b)) := htq.later z.grows (fun j hj => by rw [hj]; exact hk)
          refine runsTo_mono11 (Q := fun uu w1 => w1 = st6_20 z.now k.1 (.int .i64 af) (.int .i64 at_) (.int .u64 aw) (.int .i64 (gsi S p).e) (.int .i64 (gsi S p).a) (.int .i64 (gsi S p).b)) ?_ (fun uu w1 hq => ?_)
          · clear h12 h13 hne hk htq hgq
            go_simp
            all_goals rfl
          · subst hq
            exact ⟨k, ⟨hgq, fun _ => ⟨hk, by rw [if_pos (by simp)]; exact st6_20_is ar _ _ _ _ _ _⟩, fun hd => ⟨(h13 (by simpa using hd)).1, by have := (h13 (by simpa using hd)).2.touch htq (fun e => hne d12 (by simpa using hd) e.symm); simpa using this⟩, by simpa using hne⟩, fun _ _ _ => rfl, .inl rfl⟩
        | 15, ho, hD, hpre =>
          cases (show some _ = some oo' from ho)
          have e7 := ev_nfK (hV 13 7 rfl)
          have e57 := ev_nfK (hV 11 57 rfl)
          have d13 : D 13 = true := hpre 13 (by kernel_rfl)
          have n15 : D 15 = false := hD
          have ar := (h13 d13).2
          rw [if_neg (by rw [n15]; exact Bool.false_ne_true)] at ar
          have t0_ := ar.mine 0 rfl
          have t1_ := ar.mine 1 rfl
          have t2_ := ar.mine 2 rfl
          have t3_ := ar.mine 3 rfl
          have t4_ := ar.mine 4 rfl
          have t5_ := ar.mine 5 rfl
          have hk := (h13 d13).1
          have htq := st6_20_touch z.now k.2 (.int .i64 bf) (.int .i64 bt) (.int .u64 bw) (.int .i64 (gsi S q).e) (.int .i64 (gsi S q).a) (.int .i64 (gsi S q).b)
          have hgq : Grows y1.now (st6_20 z.now k.2 (.int .i64 bf) (.int .i64 bt) (.int .u64 bw) (.int .i64 (gsi S q).e) (.int .i64 (gsi S q).a) (.int .i64 (gsi S q).b)) := htq.later z.grows (fun j hj => by rw [hj]; exact hk)
          refine runsTo_mono11 (Q := fun uu w1 => w1 = st6_20 z.now k.2 (.int .i64 bf) (.int .i64 bt) (.int .u64 bw) (.int .i64 (gsi S q).e) (.int .i64 (gsi S q).a) (.int .i64 (gsi S q).b)) ?_ (fun uu w1 hq => ?_)
          · clear h12 h13 hne hk htq hgq
            go_simp
            all_goals rfl
          · subst hq
            exact ⟨k, ⟨hgq, fun hd => ⟨(h12 (by simpa using hd)).1, by have := (h12 (by simpa using hd)).2.touch htq (fun e => hne (by simpa using hd) d13 e); simpa using this⟩, fun _ => ⟨hk, by rw [if_pos (by simp)]; exact st6_20_is ar _ _ _ _ _ _⟩, by simpa using hne⟩, fun _ _ _ => rfl, .inl rfl⟩
        | n + 16, ho, hD, hpre => cases ho
    case he =>
      intro k w1 hM
      obtain ⟨hgx, h12, h13, hne⟩ := hM
      obtain ⟨z, rfl⟩ := hgx.later
      have ar1 := (h12 rfl).2
      have ar2 := (h13 rfl).2
      rw [if_pos rfl] at ar1 ar2
      clear h12 h13 hne hgx
      subst hVV
      obtain ⟨k1, k2⟩ := k
      simp only [putAll, dstOf, List.length_cons, List.length_nil, Nat.reduceAdd, List.getElem?_cons_zero, List.getElem?_cons_succ, Option.bind_some, List.getD_cons_zero, List.getD_cons_succ, Act.put, List.setIfInBounds_toArray, List.set_cons_zero, List.set_cons_succ]
      by_cases g1 : af = f
      · subst g1
        by_cases g2 : at_ = bf
        · subst g2
          by_cases g3 : bt = t
          · subst g3
            by_cases g4 : IntKind.u64.wrap (aw + bw) = wt
            · obtain ⟨⟨x1, x2⟩, ⟨x3, x4⟩, y3, y4⟩ := HX.out
              obtain ⟨u, rfl⟩ : ∃ u : Nat, af = (u : Int) := ⟨af.toNat, by omega⟩
              obtain ⟨v, rfl⟩ : ∃ v : Nat, at_ = (v : Int) := ⟨at_.toNat, by omega⟩
              obtain ⟨x, rfl⟩ : ∃ x : Nat, bt = (x : Int) := ⟨bt.toNat, by omega⟩
              obtain ⟨bR, offR, rfl, hcR⟩ := HRR.out.intsH (by omega)
              have k1 := hcR u (by omega)
              have k2 := hcR v (by omega)
              have k3 := hcR x (by omega)
              have hRB := HRB.out
              rw [decide_eq_true (show (u : Int) = (u : Int) ∧ (v : Int) = (v : Int) ∧ (x : Int) = (x : Int) ∧ _ from ⟨rfl, rfl, rfl, g4⟩), Bool.true_and] at hRB
              simp only [Int.toNat_natCast] at hRB
              have HRB2 := hide hRB
              have hu : u < m := by omega
              have hv : v < m := by omega
              have hx : x < m := by omega
              clear hcR hRB x1 x2 x3 x4 y3 y4 HX HRR HRB
              go_wp2_with fail
              all_goals go_ret
              all_goals exact ⟨ret_bool (by rw [HRB2.out]; first | rfl | (simp [*]; done) | (apply bool_ext; simp [*]; try omega)), GG⟩
            · have HRB2 : Hid (RR = false) := hide (by rw [HRB.out, decide_eq_false (fun e => g4 e.2.2.2), Bool.false_and])
              have g5 : (IntKind.u64.wrap (aw + bw) != wt) = true := by simpa using g4
              clear g4
              go_wp2_with fail
              go_ret
              exact ⟨ret_bool HRB2.out.symm, GG⟩
          · have HRB2 : Hid (RR = false) := hide (by rw [HRB.out, decide_eq_false (fun e => g3 e.2.2.1), Bool.false_and])
            have g5 : (bt != t) = true := by simpa using g3
            clear g3
            go_wp2_with fail
            go_ret
            exact ⟨ret_bool HRB2.out.symm, GG⟩
        · have HRB2 : Hid (RR = false) := hide (by rw [HRB.out, decide_eq_false (fun e => g2 e.2.1), Bool.false_and])
          have g5 : (at_ != bf) = true := by simpa using g2
          clear g2
          go_wp2_with fail
          go_ret
          exact ⟨ret_bool HRB2.out.symm, GG⟩
      · have HRB2 : Hid (RR = false) := hide (by rw [HRB.out, decide_eq_false (fun e => g1 e.1), Bool.false_and])
        have g5 : (af != f) = true := by simpa using g1
        clear g1
        go_wp2_with fail
        go_ret
        exact ⟨ret_bool HRB2.out.symm, GG⟩
  · rw [decide_eq_false hc, Bool.false_and]
    exact r20twoNo1 B A m d n c i r S w h hi hc
end Go.Proofs.Ytgplpgldhoelcaa

namespace Go.Proofs.Ytgplpgldhoelcaa
open Go Go.RowKit
attribute [local go_sem] Oper.semAt_some
set_option maxHeartbeats 1000000 in
theorem r18Right (A : Option Addr) (n c : Nat) (l : List Int) (w : World) (h : Rd w A 1 n (l.map (.int .i64))) (hn : n ≤ 1000000) :
    Calls Try.prog 15 #[.slice A n c] w fun e w' => e = .returned (.bool (rkB l)) ∧ Grows w w' := by
  have hl : l.length = n := by simpa using h.len
  have C := hide (fun (v : Int) (W : World) (g : Grows w W) => r1Has A n c l v W (h.grows g) hn)
  have HL := hide hl
  clear h hl
  go_enter Try.func15, Try.ntmps15
  go_wp2_with fail
  go_loopw [3] (fun i wr => ∃ k : Nat, k ≤ n ∧ i = .int .i64 (k : Int) ∧ (∃ y : Later w, wr = y.now) ∧ Hid (∀ j, j < k → ((j : Nat) : Int) ∈ l)) (fun i _ => n - (Go.RowKit.intOf i).toNat)
  case atStart => exact ⟨0, by omega, by go_num, ⟨⟨_, Grows.refl _⟩, rfl⟩, fun j h => by omega⟩
  case round =>
    obtain ⟨k, hk, rfl, ⟨y, rfl⟩, HA⟩ := hrel
    by_cases hlt : k < n
    · cases hin : decide ((k : Int) ∈ l) with
      | true =>
        have CK := hide (fun (W : World) (g : Grows w W) => by have := C.out (k : Int) W g; rw [hin] at this; exact this)
        have HN : Hid (∀ j, j < k + 1 → ((j : Nat) : Int) ∈ l) := fun j hj => by
          by_cases e : j = k
          · rw [e]; exact of_decide_eq_true hin
          · exact HA.out j (by omega)
        clear hin
        go_wp2_with (go_at_call 35; refine (CK.out _ GG).mono ?_; rintro e w' ⟨rfl, rfl⟩)
        go_roundw
        case measure => simp [Go.RowKit.intOf]; omega
        case rel => exact ⟨k + 1, by omega, by go_num, ⟨y, rfl⟩, HN⟩
      | false =>
        have CK := hide (fun (W : World) (g : Grows w W) => by have := C.out (k : Int) W g; rw [hin] at this; exact this)
        have HB : Hid (rkB l = false) := decide_eq_false (fun h => of_decide_eq_false hin (h k (by rw [HL.out]; exact hlt)))
        clear hin
        go_wp2_with (go_at_call 35; refine (CK.out _ GG).mono ?_; rintro e w' ⟨rfl, rfl⟩)
        go_ret
        exact ⟨ret_bool HB.out.symm, GG⟩
    · obtain rfl : k = n := by omega
      have HB : Hid (rkB l = true) := decide_eq_true (fun i hi => HA.out i (by rw [← HL.out]; exact hi))
      go_wp2_with fail
      go_ret
      exact ⟨ret_bool HB.out.symm, GG⟩
def madeOne (E : List Edg) (r : List Int) (S : List SI) (i : Nat) : Bool := edgeSB E (gsi S i) || twoSB r S i
def madeSB (N : Int) (E : List Edg) (r : List Int) (S : List SI) : Bool := decide ((r.length : Int) = N) && (rkB r && decide (∀ i, i < S.length → madeOne E r S i = true))
theorem made_ends {N : Int} {E : List Edg} {r : List Int} {S : List SI} (hE : rightF N E = 0) (hl : (r.length : Int) = N) : ∀ k, (∀ j, j < k → madeOne E r S j = true) → ∀ j, j < k → (0 ≤ (gsi S j).f ∧ (gsi S j).f < r.length) ∧ 0 ≤ (gsi S j).t ∧ (gsi S j).t < r.length := by
  intro k
  induction k with
  | zero => intro _ j hj; omega
  | succ k ih =>
    intro h j hj
    have ih2 := ih (fun j hj => h j (by omega))
    by_cases e : j = k
    · subst e
      have hm := h j (by omega)
      unfold madeOne at hm
      rw [Bool.or_eq_true] at hm
      rcases hm with hm | hm
      · unfold edgeSB at hm
        simp only [Bool.and_eq_true, decide_eq_true_eq, beq_iff_eq] at hm
        obtain ⟨⟨h1, h2, _, _⟩, h3, h4, _⟩ := hm
        obtain ⟨_, _, _, r4, _⟩ := right_in hE
        have := r4 (gsi S j).e.toNat (by omega)
        rw [h3, h4] at this
        omega
      · unfold twoSB at hm
        simp only [Bool.and_eq_true, decide_eq_true_eq] at hm
        obtain ⟨⟨h1, h2, h3, h4, h5, h6⟩, ⟨h7, h8, h9, h10⟩, _⟩ := hm
        have q1 := ih2 (gsi S j).a.toNat (by omega)
        have q2 := ih2 (gsi S j).b.toNat (by omega)
        rw [h7] at q1
        rw [h9] at q2
        exact ⟨q1.1, q2.2⟩
    · exact ih2 j (by omega)
set_option maxRecDepth 20000 in
set_option maxHeartbeats 2000000 in
theorem r20Made (N : Int) (A : Option Addr) (n c : Nat) (E : List Edg) (B : Option Addr) (m d : Nat) (r : List Int) (A2 : Option Addr) (n2 c2 : Nat) (S : List SI) (w : World) (h : Rd w A 3 n (esCells E)) (hn : n ≤ 1000000) (hok : rightF N E = 0) (hr : Rd w B 1 m (r.map (.int .i64))) (hm : m ≤ 1000000) (hS : Rd w A2 6 n2 (sis S)) (hn2 : n2 ≤ 1000000) :
    Calls Try.prog 87 #[.agg #[.int .i64 N, .slice A n c], .agg #[.slice B m d, .slice A2 n2 c2]] w fun e w' => e = .returned (.bool (madeSB N E r S)) ∧ Grows w w' := by
  have hrl : r.length = m := by simpa using hr.len
  have hsl : S.length = n2 := by have := hS.1; rw [sis_len] at this; omega
  have C1 := hide (fun (W : World) (g : Grows w W) => r18Right B m d r W (hr.grows g) hm)
  have HM : Hid (madeSB N E r S = (decide ((m : Int) = N) && (rkB r && decide (∀ i, i < n2 → madeOne E r S i = true)))) := hide (by unfold madeSB; rw [hrl, hsl])
  by_cases hmn : (m : Int) = N
  · cases hrk : rkB r with
    | false =>
      rw [hrk] at C1
      have HB : Hid (madeSB N E r S = false) := hide (by rw [HM.out, hrk]; simp)
      subst hmn
      clear h hr hS hok hrk
      go_enter Try.func87, Try.ntmps87
      go_wp2_with (go_at_call 15; refine (C1.out _ GG).mono ?_; rintro e w' ⟨rfl, hg⟩; obtain ⟨x1, rfl⟩ := hg.later; clear hg)
      go_ret
      exact ⟨ret_bool HB.out.symm, GG⟩
    | true =>
      rw [hrk] at C1
      have HM2 : Hid (madeSB N E r S = decide (∀ i, i < n2 → madeOne E r S i = true)) := hide (by rw [HM.out, hrk, decide_eq_true hmn]; simp)
      have CE := hide (fun (i : Nat) (W : World) (g : Grows w W) => r20edge N A n c E (gsi S i) W (h.grows g) hn)
      have CT := hide (fun (i : Nat) (hi : i < n2) (hall : ∀ j, j < i → madeOne E r S j = true) (W : World) (g : Grows w W) => r20two B A2 m d n2 c2 i r S W (hS.grows g) hi (hr.grows g) (by rw [← hrl]; exact made_ends hok (by rw [hrl]; exact hmn) i hall))
      have HS := hide hS
      unfold siVal at CE
      subst hmn
      clear h hr hS hok hrk HM
      go_enter Try.func87, Try.ntmps87
      go_wp2_with (go_at_call 15; refine (C1.out _ GG).mono ?_; rintro e w' ⟨rfl, hg⟩; obtain ⟨x1, rfl⟩ := hg.later; clear hg)
      clear hrl hsl C1
      go_loopw [5] (fun i wr => ∃ k : Nat, k ≤ n2 ∧ i = .int .i64 (k : Int) ∧ (∃ y : Later x1.now, wr = y.now) ∧ Hid (∀ j, j < k → madeOne E r S j = true)) (fun i _ => n2 - (Go.RowKit.intOf i).toNat)
      case atStart => exact ⟨0, by omega, by go_num, ⟨⟨_, Grows.refl _⟩, rfl⟩, fun j h => by omega⟩
      case round =>
        obtain ⟨k, hk, rfl, ⟨y, rfl⟩, HA⟩ := hrel
        by_cases hlt : k < n2
        · obtain ⟨bb, off, rfl, hcc⟩ := HS.out.siH (by omega)
          obtain ⟨c1, c2, c3, c4, c5, c6⟩ := hcc k hlt
          have CE2 := hide (CE.out k)
          have CT2 := hide (CT.out k hlt HA.out)
          have HMO : Hid (madeOne E r S k = (edgeSB E (gsi S k) || twoSB r S k)) := rfl
          clear hcc CE CT
          generalize edgeSB E (gsi S k) = b1 at *
          generalize twoSB r S k = b2 at *
          generalize (gsi S k).f = sf at *
          generalize (gsi S k).t = st at *
          generalize (gsi S k).w = sw at *
          generalize (gsi S k).e = se at *
          generalize (gsi S k).a = sa at *
          generalize (gsi S k).b = sb at *
          cases b1 with
          | true =>
            have HN : Hid (∀ j, j < k + 1 → madeOne E r S j = true) := fun j hj => by
              by_cases e : j = k
              · rw [e, HMO.out]; rfl
              · exact HA.out j (by omega)
            go_wp2_with fail
            ((first | refine wp_region_gen (by kernel_rfl) (by kernel_rfl) ?_); (repeat' (first | (refine gLex_val0 rfl (by kernel_rfl) (fun K hK => ?_); (go_simp; (try (simp only [↓IntWalk.iteOmega]; try go_simp)); (try simp (disch := omega) only [IntWalk.i64_in]); (try simp (disch := omega) only [IntWalk.u64_in]); first | (refine hK _ ?_; clear hK K) | (apply Exists.intro; refine ⟨fun x => ?_, hK _ ?_⟩; (first | (go_at_call 129; exact CE2.out _ GG)); clear hK K))) | (refine gLex_undef rfl rfl rfl (by kernel_rfl) (fun K hK => ?_); go_simp; refine hK _ ?_; clear hK K) | (refine gLex_ask rfl rfl rfl ?_; first | (apply gAsk_yes; kernel_rfl; intro K hK; (go_simp; (try (simp only [↓IntWalk.iteOmega]; try go_simp)); (try simp (disch := omega) only [IntWalk.i64_in]); (try simp (disch := omega) only [IntWalk.u64_in]); first | (refine hK _ ?_; clear hK K) | (apply Exists.intro; refine ⟨fun x => ?_, hK _ ?_⟩; (first | (go_at_call 129; exact CE2.out _ GG)); clear hK K))) | ((first | apply gAsk_no1 | apply gAsk_no2); kernel_rfl; intro K hK; simp [go_sem]; refine hK _ ?_; clear hK K) | (apply gAsk_part; kernel_rfl; all_goals (intro h K hK; (try simp only [Bool.not_true] at h); (try simp only [Bool.not_false] at h); (try simp only [decide_eq_true_eq] at h); (try simp only [decide_eq_false_iff_not] at h); first | (exfalso; first | contradiction | omega) | (go_simp; (try (simp only [↓IntWalk.iteOmega]; try go_simp)); (try simp (disch := omega) only [IntWalk.i64_in]); (try simp (disch := omega) only [IntWalk.u64_in]); first | (refine hK _ ?_; clear hK K) | (apply Exists.intro; refine ⟨fun x => ?_, hK _ ?_⟩; (first | (go_at_call 129; exact CE2.out _ GG)); clear hK K))))))); all_goals ((apply gLex_end); intro x))
            go_wp2_with fail
            go_roundw
            case measure => simp [Go.RowKit.intOf]; omega
            case rel => exact ⟨k + 1, by omega, by go_num, ⟨⟨_, GG⟩, rfl⟩, HN⟩
          | false =>
            cases b2 with
            | true =>
              have HN : Hid (∀ j, j < k + 1 → madeOne E r S j = true) := fun j hj => by
                by_cases e : j = k
                · rw [e, HMO.out]; rfl
                · exact HA.out j (by omega)
              go_wp2_with fail
              ((first | refine wp_region_gen (by kernel_rfl) (by kernel_rfl) ?_); (repeat' (first | (refine gLex_val0 rfl (by kernel_rfl) (fun K hK => ?_); (go_simp; (try (simp only [↓IntWalk.iteOmega]; try go_simp)); (try simp (disch := omega) only [IntWalk.i64_in]); (try simp (disch := omega) only [IntWalk.u64_in]); first | (refine hK _ ?_; clear hK K) | (apply Exists.intro; refine ⟨fun x => ?_, hK _ ?_⟩; (first | (go_at_call 129; exact CE2.out _ GG) | (go_at_call 130; exact CT2.out _ GG)); clear hK K))) | (refine gLex_undef rfl rfl rfl (by kernel_rfl) (fun K hK => ?_); go_simp; refine hK _ ?_; clear hK K) | (refine gLex_ask rfl rfl rfl ?_; first | (apply gAsk_yes; kernel_rfl; intro K hK; (go_simp; (try (simp only [↓IntWalk.iteOmega]; try go_simp)); (try simp (disch := omega) only [IntWalk.i64_in]); (try simp (disch := omega) only [IntWalk.u64_in]); first | (refine hK _ ?_; clear hK K) | (apply Exists.intro; refine ⟨fun x => ?_, hK _ ?_⟩; (first | (go_at_call 129; exact CE2.out _ GG) | (go_at_call 130; exact CT2.out _ GG)); clear hK K))) | ((first | apply gAsk_no1 | apply gAsk_no2); kernel_rfl; intro K hK; simp [go_sem]; refine hK _ ?_; clear hK K) | (apply gAsk_part; kernel_rfl; all_goals (intro h K hK; (try simp only [Bool.not_true] at h); (try simp only [Bool.not_false] at h); (try simp only [decide_eq_true_eq] at h); (try simp only [decide_eq_false_iff_not] at h); first | (exfalso; first | contradiction | omega) | (go_simp; (try (simp only [↓IntWalk.iteOmega]; try go_simp)); (try simp (disch := omega) only [IntWalk.i64_in]); (try simp (disch := omega) only [IntWalk.u64_in]); first | (refine hK _ ?_; clear hK K) | (apply Exists.intro; refine ⟨fun x => ?_, hK _ ?_⟩; (first | (go_at_call 129; exact CE2.out _ GG) | (go_at_call 130; exact CT2.out _ GG)); clear hK K))))))); all_goals ((apply gLex_end); intro x))
              go_wp2_with fail
              go_roundw
              case measure => simp [Go.RowKit.intOf]; omega
              case rel => exact ⟨k + 1, by omega, by go_num, ⟨⟨_, GG⟩, rfl⟩, HN⟩
            | false =>
              have HB : Hid (madeSB (m : Int) E r S = false) := hide (by
                rw [HM2.out]
                refine decide_eq_false fun h => ?_
                have := h k hlt
                rw [HMO.out] at this
                cases this)
              go_wp2_with fail
              ((first | refine wp_region_gen (by kernel_rfl) (by kernel_rfl) ?_); (repeat' (first | (refine gLex_val0 rfl (by kernel_rfl) (fun K hK => ?_); (go_simp; (try (simp only [↓IntWalk.iteOmega]; try go_simp)); (try simp (disch := omega) only [IntWalk.i64_in]); (try simp (disch := omega) only [IntWalk.u64_in]); first | (refine hK _ ?_; clear hK K) | (apply Exists.intro; refine ⟨fun x => ?_, hK _ ?_⟩; (first | (go_at_call 129; exact CE2.out _ GG) | (go_at_call 130; exact CT2.out _ GG)); clear hK K))) | (refine gLex_undef rfl rfl rfl (by kernel_rfl) (fun K hK => ?_); go_simp; refine hK _ ?_; clear hK K) | (refine gLex_ask rfl rfl rfl ?_; first | (apply gAsk_yes; kernel_rfl; intro K hK; (go_simp; (try (simp only [↓IntWalk.iteOmega]; try go_simp)); (try simp (disch := omega) only [IntWalk.i64_in]); (try simp (disch := omega) only [IntWalk.u64_in]); first | (refine hK _ ?_; clear hK K) | (apply Exists.intro; refine ⟨fun x => ?_, hK _ ?_⟩; (first | (go_at_call 129; exact CE2.out _ GG) | (go_at_call 130; exact CT2.out _ GG)); clear hK K))) | ((first | apply gAsk_no1 | apply gAsk_no2); kernel_rfl; intro K hK; simp [go_sem]; refine hK _ ?_; clear hK K) | (apply gAsk_part; kernel_rfl; all_goals (intro h K hK; (try simp only [Bool.not_true] at h); (try simp only [Bool.not_false] at h); (try simp only [decide_eq_true_eq] at h); (try simp only [decide_eq_false_iff_not] at h); first | (exfalso; first | contradiction | omega) | (go_simp; (try (simp only [↓IntWalk.iteOmega]; try go_simp)); (try simp (disch := omega) only [IntWalk.i64_in]); (try simp (disch := omega) only [IntWalk.u64_in]); first | (refine hK _ ?_; clear hK K) | (apply Exists.intro; refine ⟨fun x => ?_, hK _ ?_⟩; (first | (go_at_call 129; exact CE2.out _ GG) | (go_at_call 130; exact CT2.out _ GG)); clear hK K))))))); all_goals ((apply gLex_end); intro x))
              go_wp2_with fail
              go_ret
              exact ⟨ret_bool HB.out.symm, GG⟩
        · obtain rfl : k = n2 := by omega
          have HB : Hid (madeSB (m : Int) E r S = true) := hide (by rw [HM2.out]; exact decide_eq_true HA.out)
          go_wp2_with fail
          go_ret
          exact ⟨ret_bool HB.out.symm, GG⟩
  · have HB : Hid (madeSB N E r S = false) := hide (by rw [HM.out, decide_eq_false hmn]; simp)
    have hne : ((m : Int) != N) = true := by simpa using hmn
    clear h hr hS hok hmn
    go_enter Try.func87, Try.ntmps87
    go_wp2_with fail
    go_ret
    exact ⟨ret_bool HB.out.symm, GG⟩
end Go.Proofs.Ytgplpgldhoelcaa

