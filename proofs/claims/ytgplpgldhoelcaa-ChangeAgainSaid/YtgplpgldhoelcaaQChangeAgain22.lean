/- Contract: a node goes. -/
import Derived.Test.YtgplpgldhoelcaaQChangeAgain21
import Derived.Maps.RangeWalk
namespace Go.Proofs.Ytgplpgldhoelcaa
open Go Go.RowKit
attribute [local go_sem] Oper.semAt_some
def st6c (x : World) (b : Nat) (v0 v1 v2 v3 v4 v5 : Value) : World := ((((((x.setCell ⟨b, 0, none⟩ v0).setCell ⟨b, 1, none⟩ v1).setCell ⟨b, 2, none⟩ v2).setCell ⟨b, 3, none⟩ v3).setCell ⟨b, 4, none⟩ v4).setCell ⟨b, 5, none⟩ v5)
theorem st6c_touch (x : World) (b : Nat) (v0 v1 v2 v3 v4 v5 : Value) : Touch (fun k => k = b) x (st6c x b v0 v1 v2 v3 v4 v5) :=
  ((((((Touch.refl (fun k => k = b) x).set (p := ⟨b, 0, none⟩) (.inl rfl) v0).set (p := ⟨b, 1, none⟩) (.inl rfl) v1).set (p := ⟨b, 2, none⟩) (.inl rfl) v2).set (p := ⟨b, 3, none⟩) (.inl rfl) v3).set (p := ⟨b, 4, none⟩) (.inl rfl) v4).set (p := ⟨b, 5, none⟩) (.inl rfl) v5
theorem st6c_is {x : World} {b : Nat} {t : TypeId} {u0 u1 u2 u3 u4 u5 : Value} (a : Arr x b t [u0, u1, u2, u3, u4, u5]) (v0 v1 v2 v3 v4 v5 : Value) : Arr (st6c x b v0 v1 v2 v3 v4 v5) b t [v0, v1, v2, v3, v4, v5] :=
  (((((a.set 0 v0).set 1 v1).set 2 v2).set 3 v3).set 4 v4).set 5 v5
theorem CoreX.net {w : World} {P : CorePl} {R : CoreRw} {c : Ctr} {nm nl : Nat} {L : List Sc} (h : CoreX w P R (fun _ => True) c nm nl L) : NetRd w (some ⟨P.go, 0, none⟩) (some ⟨P.gg, 0, none⟩) c.O c.G := by
  have ol := h.olen
  have gl := h.glen
  refine ⟨⟨R.Af, R.cf, ?_, fun x hx => (h.rows x (by omega) trivial).2.rd⟩, ?_⟩
  · have e : (List.range P.N).map R.hdr = (List.range c.O.length).map fun x => Value.slice (R.Af x) (ga c.O x).length (R.cf x) := by
      rw [ol]
      refine List.map_congr_left fun x hx => ?_
      have hx := List.mem_range.1 hx
      unfold CoreRw.hdr
      rw [(h.rows x hx trivial).1]
    have := h.out.rd (size := 1) (n := c.O.length) (by simp [ol])
    rwa [e] at this
  · exact h.gone.rd (by simp [gl, ol])
theorem CoreX.goned {w : World} {P : CorePl} {R : CoreRw} {ok : Nat → Prop} {c : Ctr} {nm nl : Nat} {L : List Sc} (h : CoreX w P R ok c nm nl L) (v : Nat) : CoreX (w.setCell ⟨P.gg, v, none⟩ (.bool true)) P R ok ⟨c.O, c.G.set v true, c.at_, c.S, c.D⟩ nm nl L := by
  have ts : Touch (fun k => k = P.gg) w (w.setCell ⟨P.gg, v, none⟩ (.bool true)) := (Touch.refl (fun k => k = P.gg) w).set (p := ⟨P.gg, v, none⟩) (.inl rfl) _
  refine ⟨h.olen, by simpa using h.glen, h.dlen, h.core.touch ts (h.core.ne h.gone (by decide)), h.out.touch ts (h.out.ne h.gone (by decide)), ?_, h.deep.touch ts (h.deep.ne h.gone (by decide)), h.map.touch ts (fun e => h.map.not_arr h.gone e.symm), h.list.touch ts (h.list.not_arr h.gone (by decide)),
    fun x hx hk => ⟨(h.rows x hx hk).1, (h.rows x hx hk).2.touch ts ((h.rows x hx hk).2.not_arr h.gone (by decide))⟩, fun x hx p hp => ?_, h.apart⟩
  · have e : (c.G.set v true).map Value.bool = (c.G.map Value.bool).set v (.bool true) := by rw [List.map_set]
    rw [e]
    exact h.gone.set v _
  · obtain ⟨h1, cs, h2⟩ := h.lt x hx p hp
    exact ⟨Nat.lt_of_lt_of_le h1 ts.size, cs, ts.at (h.row_arr hx hp h.gone (by decide)) h2⟩
theorem CoreX.deeper {w : World} {P : CorePl} {R : CoreRw} {ok : Nat → Prop} {c : Ctr} {nm nl : Nat} {L : List Sc} (h : CoreX w P R ok c nm nl L) (u x : Nat) : CoreX (w.setCell ⟨P.gd, u, none⟩ (.int .i64 (x : Int))) P R ok ⟨c.O, c.G, c.at_, c.S, c.D.set u x⟩ nm nl L := by
  have ts : Touch (fun k => k = P.gd) w (w.setCell ⟨P.gd, u, none⟩ (.int .i64 (x : Int))) := (Touch.refl (fun k => k = P.gd) w).set (p := ⟨P.gd, u, none⟩) (.inl rfl) _
  refine ⟨h.olen, h.glen, by simpa using h.dlen, h.core.touch ts (h.core.ne h.deep (by decide)), h.out.touch ts (h.out.ne h.deep (by decide)), h.gone.touch ts (h.gone.ne h.deep (by decide)), ?_, h.map.touch ts (fun e => h.map.not_arr h.deep e.symm), h.list.touch ts (h.list.not_arr h.deep (by decide)),
    fun x hx hk => ⟨(h.rows x hx hk).1, (h.rows x hx hk).2.touch ts ((h.rows x hx hk).2.not_arr h.deep (by decide))⟩, fun x hx p hp => ?_, h.apart⟩
  · have e : nv (c.D.set u x) = (nv c.D).set u (.int .i64 (x : Int)) := by unfold nv; rw [List.map_set]
    rw [e]
    exact h.deep.set u _
  · obtain ⟨h1, cs, h2⟩ := h.lt x hx p hp
    exact ⟨Nat.lt_of_lt_of_le h1 ts.size, cs, ts.at (h.row_arr hx hp h.deep (by decide)) h2⟩
def gk (K : List Kp) (k : Nat) : Kp := K.getD k (0, 0, 0)
theorem take_k {K : List Kp} {k : Nat} (h : k < K.length) : K.take (k + 1) = K.take k ++ [gk K k] := by
  rw [List.take_succ_eq_append_getElem h]
  simp [gk, h]
theorem gk_mem {K : List Kp} {k : Nat} (h : k < K.length) : gk K k ∈ K := by
  unfold gk
  rw [List.getD_eq_getElem?_getD, List.getElem?_eq_getElem h]
  exact List.getElem_mem h
theorem kpI_at {K : List Kp} {k : Nat} (h : k < K.length) : gi2 (kpI K) k = ((gk K k).2.1, (gk K k).2.2) := by
  unfold gi2 kpI gk
  simp [h]
theorem kpU_at {K : List Kp} {k : Nat} (h : k < K.length) : ((kpU K).map (Value.int .i64))[k]? = some (.int .i64 ((gk K k).1 : Int)) := by
  unfold kpU gk
  simp [h]
theorem adds_n {N v n0 : Nat} {c : Ctr} {K : List Kp} (hn : CtN N c) (hl : ∀ u, (ga c.O u).length ≤ n0) (hK : ∀ x ∈ K, x.1 < N ∧ x.2.1 < N ∧ x.1 ≠ x.2.1) : ∀ k, k ≤ K.length → CtN N (Ctr.adds v (K.take k) c) ∧ (Ctr.adds v (K.take k) c).S.length ≤ c.S.length + k ∧ ∀ u, (ga (Ctr.adds v (K.take k) c).O u).length ≤ n0 + k
  | 0, _ => ⟨by simpa [Ctr.adds] using hn, by simp [Ctr.adds], by simpa [Ctr.adds] using hl⟩
  | k + 1, hk => by
    obtain ⟨h1, h2, h3⟩ := adds_n (v := v) hn hl hK k (by omega)
    rw [take_k (by omega), Ctr.adds_snoc]
    obtain ⟨e1, e2, e3⟩ := hK _ (gk_mem (K := K) (k := k) (by omega))
    exact ⟨h1.add e1 e2 e3, Nat.le_trans (add_len _ _) (by omega), ctr_len h3⟩
theorem add_after {S : Nat → Prop} {W1 wr W w2 : World} {P : CorePl} {c : Ctr} (h1 : Touch S W1 wr) (hg : Grows wr W) (ht : Touch (fun j => S j ∨ New W1 wr j) W w2) (hc : CoreAt w2 (fun k => (S k ∨ New W1 wr k) ∨ New W w2 k) P c) : Touch S W1 w2 ∧ CoreAt w2 (fun j => S j ∨ New W1 w2 j) P c := by
  refine ⟨(h1.grows hg).trans2 ht (fun j hj => ?_), hc.mono (fun j hj => ?_)⟩
  · rcases hj with hj | hj
    · exact .inl hj
    · exact .inr hj.1
  · rcases hj with (hj | hj) | hj
    · exact .inl hj
    · exact .inr ⟨hj.1, Nat.lt_of_lt_of_le hj.2 (Nat.le_trans hg.size ht.size)⟩
    · exact .inr ⟨Nat.le_trans h1.size (Nat.le_trans hg.size hj.1), hj.2⟩
theorem adds_D (v : Nat) : ∀ (l : List Kp) (c : Ctr), (Ctr.adds v l c).D = c.D
  | [], _ => rfl
  | k :: l, c => by
    show (Ctr.adds v l (c.add (kpSc c v k))).D = c.D
    rw [adds_D v l, (Ctr.add_G c _).2]
theorem ranges_touch {P : Program} {k : TypeId} {R : Value → Option (DataW Unit × List MemPlace)} {w w' : World} {S : Nat → Prop} {b r n : Nat} {D : DataW Unit} {left : Lit → Bool} {cnt : Nat} (h : w.ranges P k R b r n D left cnt) (ht : Touch S w w') (hb : ¬ S b) (hr : ¬ S r) : w'.ranges P k R b r n D left cnt := by
  obtain ⟨es, clock, since, seen, c0, h1, F, hs, hD, h2, rest⟩ := h
  exact ⟨es, clock, since, seen, c0, ht.at hb h1, F, hs, hD, ht.at hr h2, rest⟩
theorem mpC_get (at_ : Nat → Nat → Option Nat) (p q : Nat) : (mpC at_ (p : Int) (q : Int)).getD 0 = (((at_ p q).getD 0 : Nat) : Int) := by
  rw [mpC_at]
  cases at_ p q <;> rfl
set_option maxRecDepth 40000 in
set_option maxHeartbeats 16000000 in
theorem coContract (P : CorePl) (c : Ctr) (v n0 : Nat) (S : Nat → Prop) (w : World) (h : CoreAt w S P c) (hs : ∀ k, S k → k < w.heap.size) (hn : CtN P.N c) (hv : v < P.N) (hN : P.N ≤ 100) (hW : ∀ v a, a ∈ ga c.O v → a.2 ≤ 1152921504606846976) (hl : ∀ u, (ga c.O u).length ≤ n0) (hn0 : n0 ≤ 80000) (hL : c.S.length ≤ 900000000) (hdv : gn c.D v ≤ 1000000) (hh : P.hops ≤ 1000) (hst : P.settles ≤ 1000) :
    Calls Try.prog 74 #[.pointer (some ⟨P.b, 0, none⟩), .int .i64 (v : Int)] w (GiveCo w S P (c.go P.hops P.settles v)) := by
  obtain ⟨R, hX, hS⟩ := h
  have HX := hide hX
  have HSS := hide hs
  have HS := hide hS
  have HN := hide hn
  have HL := hide hl
  have ol := hX.olen
  have gl := hX.glen
  have dl := hX.dlen
  have wv : I64 (v : Int) := ⟨by omega, by omega⟩
  have CK := hide (fun (W : World) (g : Grows w W) => coKept (some ⟨P.go, 0, none⟩) (some ⟨P.gg, 0, none⟩) P.N P.N v P.hops P.settles P.rk c.O c.G W (hX.net.grows g) hn.nin (by omega) (by omega) hW (fun u => Nat.le_trans (hl u) (by omega)) hh hst)
  have CLG := hide (fun (W : World) (g : Grows w W) => coLightest (some ⟨P.go, 0, none⟩) (some ⟨P.gg, 0, none⟩) P.N P.N v c.O c.G W (hX.net.grows g) hn.nin (by omega) (by omega) hW (fun u => Nat.le_trans (hl u) (by omega)))
  rw [ol] at CK CLG
  have HGO : Hid (c.go P.hops P.settles v = ⟨(Ctr.adds v (keptL c.O c.G P.hops P.settles v) c).O, (Ctr.adds v (keptL c.O c.G P.hops P.settles v) c).G.set v true, (Ctr.adds v (keptL c.O c.G P.hops P.settles v) c).at_, (Ctr.adds v (keptL c.O c.G P.hops P.settles v) c).S, deepL (Ctr.adds v (keptL c.O c.G P.hops P.settles v) c).D (lightest c.O c.G v) v⟩) := rfl
  have HKM : Hid (∀ x ∈ keptL c.O c.G P.hops P.settles v, x.1 < P.N ∧ x.2.1 < P.N ∧ x.1 ≠ x.2.1) := hide (fun x hx => by
    obtain ⟨u, a, y, b, h1, _, h3, _, h5, _, rfl⟩ := (kpAll_mem c.O.length).1 hx
    show u < P.N ∧ y < P.N ∧ u ≠ y
    exact ⟨by omega, by omega, h5⟩)
  have HKW : Hid (∀ x ∈ keptL c.O c.G P.hops P.settles v, x.2.2 < 2 ^ 62) := hide (fun x hx => by
    obtain ⟨u, a, y, b, h1, h2, h3, h4, h5, _, rfl⟩ := (kpAll_mem c.O.length).1 hx
    have w1 : a ≤ 1152921504606846976 := hW u _ ((lgAll_ok c.O c.G v c.O.length).1.is u a h2).2.2.2
    have w2 : b ≤ 1152921504606846976 := hW v _ ((lgAll_ok c.O c.G v c.O.length).2.is y b h4).2.2.2
    show a + b < 2 ^ 62
    omega)
  have HT1 : Hid (∀ u, ((lightest c.O c.G v).1 u).isSome = true → u ≠ v ∧ u < P.N) := hide (fun u hu => by
    obtain ⟨a, ha⟩ := Option.isSome_iff_exists.1 hu
    have h1 := (lgAll_ok c.O c.G v c.O.length).1.is u a ha
    exact ⟨h1.1, by rw [← ol]; exact h1.2.2.1⟩)
  have HT2 : Hid (∀ u, ((lightest c.O c.G v).2 u).isSome = true → u ≠ v ∧ u < P.N) := hide (fun u hu => by
    obtain ⟨a, ha⟩ := Option.isSome_iff_exists.1 hu
    have h1 := (lgAll_ok c.O c.G v c.O.length).2.is u a ha
    exact ⟨h1.1, by rw [← ol]; exact hn.nin v _ h1.2.2.2⟩)
  have hKL : (keptL c.O c.G P.hops P.settles v).length ≤ 100 * 100 := Nat.le_trans (kpAll_len _) (Nat.mul_le_mul (by omega) (by omega))
  have HAD := hide (fun k hk => adds_n (v := v) hn hl HKM.out k hk)
  have hcore := hX.core
  unfold CorePl.cells at hcore
  unfold GiveKp at CK
  clear hX hs hS hn hl hW
  generalize keptL c.O c.G P.hops P.settles v = K at *
  generalize lightest c.O c.G v = tf at *
  generalize c.go P.hops P.settles v = cgo at *
  go_enter Try.func74, Try.ntmps74
  go_upto_region 0 with fail
  obtain ⟨VV, hVV⟩ : ∃ V : Option Addr × Nat × Option Addr × Nat → Nat → Value, V = fun c4 j => ([.pointer (some ⟨P.b, 0, none⟩), .pointer (some ⟨P.b, 0, none⟩), .pointer (some ⟨P.b, 0, none⟩), .agg #[.slice (some ⟨P.go, 0, none⟩) P.N P.N, .slice (some ⟨P.gg, 0, none⟩) P.N P.N], .int .i64 (v : Int), .pointer (some ⟨P.b, 0, none⟩), .pointer (some ⟨P.b, 0, none⟩), .pointer (some ⟨P.b, 4, none⟩), .agg #[.int .i64 (P.hops : Int), .int .i64 (P.settles : Int), P.rk], .tuple #[.slice c4.1 K.length c4.2.1, .slice c4.2.2.1 K.length c4.2.2.2], .tuple #[.slice c4.1 K.length c4.2.1, .slice c4.2.2.1 K.length c4.2.2.2], .slice c4.1 K.length c4.2.1, .slice c4.2.2.1 K.length c4.2.2.2, .slice c4.1 K.length c4.2.1, .slice c4.2.2.1 K.length c4.2.2.2] : List Value).getD j undef := ⟨_, rfl⟩
  refine wp_region_some (by kernel_rfl) (by kernel_rfl) (by kernel_rfl) (by kernel_rfl) (by kernel_rfl) VV
    (fun c4 D w1 => Grows w w1 ∧ (D 9 = true → Own w1 w.heap.size 40 2 c4.1 K.length c4.2.1 (its (kpI K)) ∧ Own w1 w.heap.size 3 1 c4.2.2.1 K.length c4.2.2.2 ((kpU K).map (.int .i64))))
    (none, 0, none, 0) ⟨(Grows.refl _).drew, fun h => absurd h (by simp)⟩ ?hs ?he
  case hs =>
    subst hVV
    intro c4 a hV hO i oo' ho D hcl hD hpre w1 hM
    obtain ⟨hgx, h9⟩ := hM
    obtain ⟨x, rfl⟩ := hgx.later
    match i, ho, hD, hpre with
      | 0, ho, hD, hpre =>
        cases (show some _ = some oo' from ho)
        have e0 := ev_nfK ((hO 0 (notDstK (by kernel_rfl))).trans rfl)
        refine runsTo_mono11 (Q := fun uu w1 => w1 = x.now ∧ uu = (.pointer (some ⟨P.b, 0, none⟩) : Value)) ?_ (fun uu w1 ⟨h1, hq⟩ => ⟨c4, by subst h1; exact ⟨x.grows, by simpa using h9⟩, fun _ _ _ => rfl, .inr hq⟩)
        clear h9
        go_simp
        all_goals exact ⟨rfl, rfl⟩
      | 1, ho, hD, hpre =>
        cases (show some _ = some oo' from ho)
        have e15 := ev_nfK (hV 0 15 rfl)
        refine runsTo_mono11 (Q := fun uu w1 => w1 = x.now ∧ uu = (.pointer (some ⟨P.b, 0, none⟩) : Value)) ?_ (fun uu w1 ⟨h1, hq⟩ => ⟨c4, by subst h1; exact ⟨x.grows, by simpa using h9⟩, fun _ _ _ => rfl, .inr hq⟩)
        clear h9
        go_simp
        all_goals exact ⟨rfl, rfl⟩
      | 2, ho, hD, hpre =>
        cases (show some _ = some oo' from ho)
        have e16 := ev_nfK (hV 1 16 rfl)
        refine runsTo_mono11 (Q := fun uu w1 => w1 = x.now ∧ uu = (.pointer (some ⟨P.b, 0, none⟩) : Value)) ?_ (fun uu w1 ⟨h1, hq⟩ => ⟨c4, by subst h1; exact ⟨x.grows, by simpa using h9⟩, fun _ _ _ => rfl, .inr hq⟩)
        clear h9
        go_simp
        all_goals exact ⟨rfl, rfl⟩
      | 3, ho, hD, hpre =>
        cases (show some _ = some oo' from ho)
        have e17 := ev_nfK (hV 2 17 rfl)
        refine runsTo_mono11 (Q := fun uu w1 => w1 = x.now ∧ uu = (.agg #[.slice (some ⟨P.go, 0, none⟩) P.N P.N, .slice (some ⟨P.gg, 0, none⟩) P.N P.N] : Value)) ?_ (fun uu w1 ⟨h1, hq⟩ => ⟨c4, by subst h1; exact ⟨x.grows, by simpa using h9⟩, fun _ _ _ => rfl, .inr hq⟩)
        clear h9
        go_simp
        all_goals exact ⟨rfl, rfl⟩
      | 4, ho, hD, hpre =>
        cases (show some _ = some oo' from ho)
        have e1 := ev_nfK ((hO 1 (notDstK (by kernel_rfl))).trans rfl)
        refine runsTo_mono11 (Q := fun uu w1 => w1 = x.now ∧ uu = (.int .i64 (v : Int) : Value)) ?_ (fun uu w1 ⟨h1, hq⟩ => ⟨c4, by subst h1; exact ⟨x.grows, by simpa using h9⟩, fun _ _ _ => rfl, .inr hq⟩)
        clear h9
        go_simp
        all_goals exact ⟨rfl, rfl⟩
      | 5, ho, hD, hpre =>
        cases (show some _ = some oo' from ho)
        have e0 := ev_nfK ((hO 0 (notDstK (by kernel_rfl))).trans rfl)
        refine runsTo_mono11 (Q := fun uu w1 => w1 = x.now ∧ uu = (.pointer (some ⟨P.b, 0, none⟩) : Value)) ?_ (fun uu w1 ⟨h1, hq⟩ => ⟨c4, by subst h1; exact ⟨x.grows, by simpa using h9⟩, fun _ _ _ => rfl, .inr hq⟩)
        clear h9
        go_simp
        all_goals exact ⟨rfl, rfl⟩
      | 6, ho, hD, hpre =>
        cases (show some _ = some oo' from ho)
        have e20 := ev_nfK (hV 5 20 rfl)
        refine runsTo_mono11 (Q := fun uu w1 => w1 = x.now ∧ uu = (.pointer (some ⟨P.b, 0, none⟩) : Value)) ?_ (fun uu w1 ⟨h1, hq⟩ => ⟨c4, by subst h1; exact ⟨x.grows, by simpa using h9⟩, fun _ _ _ => rfl, .inr hq⟩)
        clear h9
        go_simp
        all_goals exact ⟨rfl, rfl⟩
      | 7, ho, hD, hpre =>
        cases (show some _ = some oo' from ho)
        have e21 := ev_nfK (hV 6 21 rfl)
        refine runsTo_mono11 (Q := fun uu w1 => w1 = x.now ∧ uu = (.pointer (some ⟨P.b, 4, none⟩) : Value)) ?_ (fun uu w1 ⟨h1, hq⟩ => ⟨c4, by subst h1; exact ⟨x.grows, by simpa using h9⟩, fun _ _ _ => rfl, .inr hq⟩)
        clear h9
        go_simp
        all_goals exact ⟨rfl, rfl⟩
      | 8, ho, hD, hpre =>
        cases (show some _ = some oo' from ho)
        have e22 := ev_nfK (hV 7 22 rfl)
        refine runsTo_mono11 (Q := fun uu w1 => w1 = x.now ∧ uu = (.agg #[.int .i64 (P.hops : Int), .int .i64 (P.settles : Int), P.rk] : Value)) ?_ (fun uu w1 ⟨h1, hq⟩ => ⟨c4, by subst h1; exact ⟨x.grows, by simpa using h9⟩, fun _ _ _ => rfl, .inr hq⟩)
        clear h9
        go_simp
        all_goals exact ⟨rfl, rfl⟩
      | 9, ho, hD, hpre =>
        cases (show some _ = some oo' from ho)
        have e18 := ev_nfK (hV 3 18 rfl)
        have e19 := ev_nfK (hV 4 19 rfl)
        have e23 := ev_nfK (hV 8 23 rfl)
        have n9 : D 9 = false := hD
        have n10 : D 10 = false := by
          cases hd : D 10 with
          | false => rfl
          | true => exact absurd (hcl 10 9 hd (by kernel_rfl)) (by rw [n9]; exact Bool.false_ne_true)
        have n11 : D 11 = false := by
          cases hd : D 11 with
          | false => rfl
          | true => exact absurd (hcl 11 10 hd (by kernel_rfl)) (by rw [n10]; exact Bool.false_ne_true)
        have n12 : D 12 = false := by
          cases hd : D 12 with
          | false => rfl
          | true => exact absurd (hcl 12 10 hd (by kernel_rfl)) (by rw [n10]; exact Bool.false_ne_true)
        have n13 : D 13 = false := by
          cases hd : D 13 with
          | false => rfl
          | true => exact absurd (hcl 13 11 hd (by kernel_rfl)) (by rw [n11]; exact Bool.false_ne_true)
        have n14 : D 14 = false := by
          cases hd : D 14 with
          | false => rfl
          | true => exact absurd (hcl 14 12 hd (by kernel_rfl)) (by rw [n12]; exact Bool.false_ne_true)
        refine runsTo_mono11 (Q := fun uu w1 => Grows x.now w1 ∧ ∃ Al cl Au cu, uu = .tuple #[.slice Al K.length cl, .slice Au K.length cu] ∧ Own w1 x.now.heap.size 40 2 Al K.length cl (its (kpI K)) ∧ Own w1 x.now.heap.size 3 1 Au K.length cu ((kpU K).map (.int .i64))) ?_ (fun uu w1 ⟨h4, Al, cl, Au, cu, h1, z1, z2⟩ => ⟨(Al, cl, Au, cu), ⟨x.grows.trans h4, fun _ => ⟨z1.base x.size, z2.base x.size⟩⟩, fun j _ hDj => ?_, .inr h1⟩)
        · clear h9
          go_simp
          refine (CK.out _ x.grows).mono ?_
          rintro e w2 ⟨Al, cl, Au, cu, rfl, z1, z2, hg⟩
          exact ⟨_, rfl, hg, Al, cl, Au, cu, rfl, z1, z2⟩
        · match j, hDj with
          | 0, _ => rfl
          | 1, _ => rfl
          | 2, _ => rfl
          | 3, _ => rfl
          | 4, _ => rfl
          | 5, _ => rfl
          | 6, _ => rfl
          | 7, _ => rfl
          | 8, _ => rfl
          | 9, hDj => exact absurd hDj (by rw [n9]; exact Bool.false_ne_true)
          | 10, hDj => exact absurd hDj (by rw [n10]; exact Bool.false_ne_true)
          | 11, hDj => exact absurd hDj (by rw [n11]; exact Bool.false_ne_true)
          | 12, hDj => exact absurd hDj (by rw [n12]; exact Bool.false_ne_true)
          | 13, hDj => exact absurd hDj (by rw [n13]; exact Bool.false_ne_true)
          | 14, hDj => exact absurd hDj (by rw [n14]; exact Bool.false_ne_true)
          | n + 15, _ => rfl
      | 10, ho, hD, hpre =>
        cases (show some _ = some oo' from ho)
        have e24 := ev_nfK (hV 9 24 rfl)
        refine runsTo_mono11 (Q := fun uu w1 => w1 = x.now ∧ uu = (.tuple #[.slice c4.1 K.length c4.2.1, .slice c4.2.2.1 K.length c4.2.2.2] : Value)) ?_ (fun uu w1 ⟨h1, hq⟩ => ⟨c4, by subst h1; exact ⟨x.grows, by simpa using h9⟩, fun _ _ _ => rfl, .inr hq⟩)
        clear h9
        go_simp
        all_goals exact ⟨rfl, rfl⟩
      | 11, ho, hD, hpre =>
        cases (show some _ = some oo' from ho)
        have e14 := ev_nfK (hV 10 14 rfl)
        refine runsTo_mono11 (Q := fun uu w1 => w1 = x.now ∧ uu = (.slice c4.1 K.length c4.2.1 : Value)) ?_ (fun uu w1 ⟨h1, hq⟩ => ⟨c4, by subst h1; exact ⟨x.grows, by simpa using h9⟩, fun _ _ _ => rfl, .inr hq⟩)
        clear h9
        go_simp
        all_goals exact ⟨rfl, rfl⟩
      | 12, ho, hD, hpre =>
        cases (show some _ = some oo' from ho)
        have e14 := ev_nfK (hV 10 14 rfl)
        refine runsTo_mono11 (Q := fun uu w1 => w1 = x.now ∧ uu = (.slice c4.2.2.1 K.length c4.2.2.2 : Value)) ?_ (fun uu w1 ⟨h1, hq⟩ => ⟨c4, by subst h1; exact ⟨x.grows, by simpa using h9⟩, fun _ _ _ => rfl, .inr hq⟩)
        clear h9
        go_simp
        all_goals exact ⟨rfl, rfl⟩
      | 13, ho, hD, hpre =>
        cases (show some _ = some oo' from ho)
        have e25 := ev_nfK (hV 11 25 rfl)
        refine runsTo_mono11 (Q := fun uu w1 => w1 = x.now ∧ uu = (.slice c4.1 K.length c4.2.1 : Value)) ?_ (fun uu w1 ⟨h1, hq⟩ => ⟨c4, by subst h1; exact ⟨x.grows, by simpa using h9⟩, fun _ _ _ => rfl, .inr hq⟩)
        clear h9
        go_simp
        all_goals exact ⟨rfl, rfl⟩
      | 14, ho, hD, hpre =>
        cases (show some _ = some oo' from ho)
        have e26 := ev_nfK (hV 12 26 rfl)
        refine runsTo_mono11 (Q := fun uu w1 => w1 = x.now ∧ uu = (.slice c4.2.2.1 K.length c4.2.2.2 : Value)) ?_ (fun uu w1 ⟨h1, hq⟩ => ⟨c4, by subst h1; exact ⟨x.grows, by simpa using h9⟩, fun _ _ _ => rfl, .inr hq⟩)
        clear h9
        go_simp
        all_goals exact ⟨rfl, rfl⟩
      | n + 15, ho, hD, hpre => cases ho
  subst hVV
  rintro ⟨Al, cl, Au, cu⟩ wz hM
  simp only [putAll, dstOf, List.length_cons, List.length_nil, Nat.reduceAdd, List.getElem?_cons_zero, List.getElem?_cons_succ, Option.bind_some, List.getD_cons_zero, List.getD_cons_succ, Act.put, List.setIfInBounds_toArray, List.set_cons_zero, List.set_cons_succ]
  obtain ⟨hgz, h9⟩ := hM
  obtain ⟨ho1, ho2⟩ := h9 rfl
  obtain ⟨x1, rfl⟩ := hgz.later
  simp only at ho1 ho2
  have HO1 := hide ho1
  have HO2 := hide ho2
  clear h9 hgz ho1 ho2
  go_upto_region 2 with (first
    | (go_at_call 76; refine (CLG.out _ GG).mono ?_; rintro e w' ⟨m1, m2, rfl, hm1, hm2, l1, l2, l3, hg⟩; obtain ⟨x2, rfl⟩ := hg.later; have HM1 := hide hm1; have HM2 := hide hm2; clear hg hm1 hm2))
  have hgW : Grows w x2.now := x1.grows.trans x2.grows
  have HO1b := hide (HO1.out.grows x2.grows)
  have HO2b := hide (HO2.out.grows x2.grows)
  have hB1 := hide (show ∀ p, Al = some p → w.heap.size ≤ p.block ∧ p.block < x2.now.heap.size from fun p hp => by
    have := World.ownsRow.lt HO1b.out p.block (by rw [hp]; rfl)
    exact ⟨this.1, this.2⟩)
  have hB2 := hide (show ∀ p, Au = some p → w.heap.size ≤ p.block ∧ p.block < x2.now.heap.size from fun p hp => by
    have := World.ownsRow.lt HO2b.out p.block (by rw [hp]; rfl)
    exact ⟨this.1, this.2⟩)
  have hB3 := hide (show w.heap.size ≤ m1 ∧ m1 < x2.now.heap.size ∧ w.heap.size ≤ m2 ∧ m2 < x2.now.heap.size ∧ m1 ≠ m2 from ⟨Nat.le_trans x1.size l1, HM1.out.lt, Nat.le_trans x1.size l2, HM2.out.lt, l3⟩)
  have hC0 := hide (show CoreAt x2.now (fun k => S k ∨ New x2.now x2.now k) P c from ⟨R, HX.out.grow hgW, fun k hk => .inl (HS.out k hk)⟩)
  clear l1 l2 l3 HO1 HO2 CK CLG HX HS hcore
  generalize x2.now = W1 at *
  have HSW := hide (show ∀ k, S k → k < w.heap.size from HSS.out)
  go_wp2_with fail
  go_loopw [38] (fun s wr => ∃ k : Nat, k ≤ K.length ∧ s = .int .i64 (k : Int) ∧ Touch S W1 wr ∧ CoreAt wr (fun j => S j ∨ New W1 wr j) P (Ctr.adds v (K.take k) c)) (fun s _ => K.length - (Go.RowKit.intOf s).toNat)
  case atStart => exact ⟨0, by omega, by go_num, Touch.refl _ _, hC0.out⟩
  case round =>
    obtain ⟨k, hk, rfl, htt, hck⟩ := hrel
    have HTT := hide htt
    have HCK := hide hck
    clear htt hck
    have hA1 := hide (HO1b.out.touch HTT.out (fun p hp hsp => by have := hB1.out p hp; have := HSW.out _ hsp; omega))
    have hA2 := hide (HO2b.out.touch HTT.out (fun p hp hsp => by have := hB2.out p hp; have := HSW.out _ hsp; omega))
    by_cases hlt : k < K.length
    · obtain ⟨ga1, rfl, i1, i2⟩ := hA1.out.item hlt
      obtain ⟨gu, rfl, -, iu⟩ := hA2.out.at (by omega)
      have i3 := iu k _ (kpU_at hlt)
      rw [kpI_at hlt] at i1 i2
      dsimp only at i1 i2
      have HKS := hide (show Ctr.adds v (K.take (k + 1)) c = (Ctr.adds v (K.take k) c).add (kpSc (Ctr.adds v (K.take k) c) v (gk K k)) from by rw [take_k hlt, Ctr.adds_snoc])
      obtain ⟨e1, e2, e3⟩ := HKM.out _ (gk_mem hlt)
      obtain ⟨n1, n2, n3⟩ := HAD.out k hk
      have e4 := HKW.out _ (gk_mem hlt)
      have HN1 := hide n1
      have HN2 := hide n2
      have HN3 := hide n3
      clear n1 n2 n3 iu
      unfold kpSc at HKS
      generalize gk K k = kk at *
      obtain ⟨ku, kt, kw⟩ := kk
      dsimp only at i1 i2 i3 e1 e2 e3 e4 HKS
      generalize Ctr.adds v (K.take k) c = ck at *
      go_upto_region 5 with fail
      obtain ⟨W5, hW5⟩ : ∃ W5, W5 = wr.alloc (.cells #[.int .i64 (kt : Int), .int .u64 (kw : Int)] 40) := ⟨_, rfl⟩
      rw [← hW5]
      have hg5 : Grows wr W5 := by rw [hW5]; exact (Grows.refl _).new _
      have a9 : Arr W5 wr.heap.size 40 [.int .i64 (kt : Int), .int .u64 (kw : Int)] := by rw [hW5]; exact Arr.make _ _ _
      clear hW5
      generalize hb9 : wr.heap.size = b9 at a9 ⊢
      have HB9 := hide hb9
      clear hb9
      obtain ⟨y5, rfl⟩ := hg5.later
      obtain ⟨R5, hX5, -⟩ := HCK.out
      have hcore := hX5.core.grow y5.grows
      unfold CorePl.cells at hcore
      have wku : I64 (ku : Int) := ⟨by omega, by omega⟩
      have wkt : I64 (kt : Int) := ⟨by omega, by omega⟩
      have hlk1 := fun x : Later y5.now => ((hX5.map.grow y5.grows).grow x.grows).look wku wv
      have hlk2 := fun x : Later y5.now => ((hX5.map.grow y5.grows).grow x.grows).look wv wkt
      simp only [mpC_get] at hlk1 hlk2
      have hea : (ck.at_ ku v).getD 0 < 2 ^ 62 := by
        cases hq : ck.at_ ku v with
        | none => decide
        | some i => have := (HN1.out.at_in _ _ _ hq).1; have := HN2.out; show i < _; omega
      have heb : (ck.at_ v kt).getD 0 < 2 ^ 62 := by
        cases hq : ck.at_ v kt with
        | none => decide
        | some i => have := (HN1.out.at_in _ _ _ hq).1; have := HN2.out; show i < _; omega
      clear hX5
      generalize (ck.at_ ku v).getD 0 = ea at *
      generalize (ck.at_ v kt).getD 0 = eb at *
      obtain ⟨VV, hVV⟩ : ∃ V : Nat → Nat → Value, V = fun cb j => ([.slice (some ⟨gu, 0, none⟩) K.length cu, .int .i64 (k : Int), .pointer (some ⟨gu, k, none⟩), .int .i64 (ku : Int), .pointer (some ⟨b9, 0, none⟩), .int .i64 (kt : Int), .pointer (some ⟨b9, 1, none⟩), .int .u64 (kw : Int), .pointer (some ⟨P.b, 0, none⟩), .pointer (some ⟨P.b, 0, none⟩), .pointer (some ⟨P.b, 2, none⟩), .map (some P.bm), .slice (some ⟨gu, 0, none⟩) K.length cu, .int .i64 (k : Int), .pointer (some ⟨gu, k, none⟩), .int .i64 (ku : Int), .int .i64 (v : Int), .agg #[.int .i64 (ku : Int), .int .i64 (v : Int)], .int .i64 (ea : Int), .pointer (some ⟨P.b, 0, none⟩), .pointer (some ⟨P.b, 0, none⟩), .pointer (some ⟨P.b, 2, none⟩), .map (some P.bm), .int .i64 (v : Int), .pointer (some ⟨b9, 0, none⟩), .int .i64 (kt : Int), .agg #[.int .i64 (v : Int), .int .i64 (kt : Int)], .int .i64 (eb : Int), .agg #[.int .i64 (ku : Int), .int .i64 (kt : Int), .int .u64 (kw : Int), .int .i64 (-1), .int .i64 (ea : Int), .int .i64 (eb : Int)], .pointer (some ⟨cb, 0, none⟩), undef] : List Value).getD j undef := ⟨_, rfl⟩
      refine wp_region_some (by kernel_rfl) (by kernel_rfl) (by kernel_rfl) (by kernel_rfl) (by kernel_rfl) VV
        (fun cb D w1 => Grows y5.now w1 ∧ (D 29 = true → D 30 = false → Arr w1 cb 95 [.int .i64 0, .int .i64 0, .int .u64 0, .int .i64 0, .int .i64 0, .int .i64 0] ∧ y5.now.heap.size ≤ cb) ∧ (D 30 = true → Arr w1 cb 95 [.int .i64 (ku : Int), .int .i64 (kt : Int), .int .u64 (kw : Int), .int .i64 (-1), .int .i64 (ea : Int), .int .i64 (eb : Int)] ∧ y5.now.heap.size ≤ cb))
        0 ⟨(Grows.refl _).drew, fun h => absurd h (by simp), fun h => absurd h (by simp)⟩ ?hs5 ?he5
      case hs5 =>
        subst hVV
        intro cb a hV hO i oo' ho D hcl hD hpre w1 hM
        obtain ⟨hgx, h29, h30⟩ := hM
        obtain ⟨x, rfl⟩ := hgx.later
        match i, ho, hD, hpre with
        | 0, ho, hD, hpre =>
          cases (show some _ = some oo' from ho)
          have e5 := ev_nfK ((hO 5 (notDstK (by kernel_rfl))).trans rfl)
          refine runsTo_mono11 (Q := fun uu w1 => w1 = x.now ∧ uu = (.slice (some ⟨gu, 0, none⟩) K.length cu : Value)) ?_ (fun uu w1 ⟨h1, hq⟩ => ⟨cb, by subst h1; exact ⟨x.grows, by simpa using h29, by simpa using h30⟩, fun _ _ _ => rfl, .inr hq⟩)
          clear h29 h30
          go_simp
          all_goals exact ⟨rfl, rfl⟩
        | 1, ho, hD, hpre =>
          cases (show some _ = some oo' from ho)
          have e8 := ev_nfK ((hO 8 (notDstK (by kernel_rfl))).trans rfl)
          refine runsTo_mono11 (Q := fun uu w1 => w1 = x.now ∧ uu = (.int .i64 (k : Int) : Value)) ?_ (fun uu w1 ⟨h1, hq⟩ => ⟨cb, by subst h1; exact ⟨x.grows, by simpa using h29, by simpa using h30⟩, fun _ _ _ => rfl, .inr hq⟩)
          clear h29 h30
          go_simp
          all_goals exact ⟨rfl, rfl⟩
        | 2, ho, hD, hpre =>
          cases (show some _ = some oo' from ho)
          have e43 := ev_nfK (hV 0 43 rfl)
          have e44 := ev_nfK (hV 1 44 rfl)
          refine runsTo_mono11 (Q := fun uu w1 => w1 = x.now ∧ uu = (.pointer (some ⟨gu, k, none⟩) : Value)) ?_ (fun uu w1 ⟨h1, hq⟩ => ⟨cb, by subst h1; exact ⟨x.grows, by simpa using h29, by simpa using h30⟩, fun _ _ _ => rfl, .inr hq⟩)
          clear h29 h30
          go_simp
          all_goals exact ⟨rfl, rfl⟩
        | 3, ho, hD, hpre =>
          cases (show some _ = some oo' from ho)
          have e45 := ev_nfK (hV 2 45 rfl)
          refine runsTo_mono11 (Q := fun uu w1 => w1 = x.now ∧ uu = (.int .i64 (ku : Int) : Value)) ?_ (fun uu w1 ⟨h1, hq⟩ => ⟨cb, by subst h1; exact ⟨x.grows, by simpa using h29, by simpa using h30⟩, fun _ _ _ => rfl, .inr hq⟩)
          clear h29 h30
          go_simp
          all_goals exact ⟨rfl, rfl⟩
        | 4, ho, hD, hpre =>
          cases (show some _ = some oo' from ho)
          have e9 := ev_nfK ((hO 9 (notDstK (by kernel_rfl))).trans rfl)
          refine runsTo_mono11 (Q := fun uu w1 => w1 = x.now ∧ uu = (.pointer (some ⟨b9, 0, none⟩) : Value)) ?_ (fun uu w1 ⟨h1, hq⟩ => ⟨cb, by subst h1; exact ⟨x.grows, by simpa using h29, by simpa using h30⟩, fun _ _ _ => rfl, .inr hq⟩)
          clear h29 h30
          go_simp
          all_goals exact ⟨rfl, rfl⟩
        | 5, ho, hD, hpre =>
          cases (show some _ = some oo' from ho)
          have e47 := ev_nfK (hV 4 47 rfl)
          refine runsTo_mono11 (Q := fun uu w1 => w1 = x.now ∧ uu = (.int .i64 (kt : Int) : Value)) ?_ (fun uu w1 ⟨h1, hq⟩ => ⟨cb, by subst h1; exact ⟨x.grows, by simpa using h29, by simpa using h30⟩, fun _ _ _ => rfl, .inr hq⟩)
          clear h29 h30
          go_simp
          all_goals exact ⟨rfl, rfl⟩
        | 6, ho, hD, hpre =>
          cases (show some _ = some oo' from ho)
          have e9 := ev_nfK ((hO 9 (notDstK (by kernel_rfl))).trans rfl)
          refine runsTo_mono11 (Q := fun uu w1 => w1 = x.now ∧ uu = (.pointer (some ⟨b9, 1, none⟩) : Value)) ?_ (fun uu w1 ⟨h1, hq⟩ => ⟨cb, by subst h1; exact ⟨x.grows, by simpa using h29, by simpa using h30⟩, fun _ _ _ => rfl, .inr hq⟩)
          clear h29 h30
          go_simp
          all_goals exact ⟨rfl, rfl⟩
        | 7, ho, hD, hpre =>
          cases (show some _ = some oo' from ho)
          have e49 := ev_nfK (hV 6 49 rfl)
          refine runsTo_mono11 (Q := fun uu w1 => w1 = x.now ∧ uu = (.int .u64 (kw : Int) : Value)) ?_ (fun uu w1 ⟨h1, hq⟩ => ⟨cb, by subst h1; exact ⟨x.grows, by simpa using h29, by simpa using h30⟩, fun _ _ _ => rfl, .inr hq⟩)
          clear h29 h30
          go_simp
          all_goals exact ⟨rfl, rfl⟩
        | 8, ho, hD, hpre =>
          cases (show some _ = some oo' from ho)
          have e0 := ev_nfK ((hO 0 (notDstK (by kernel_rfl))).trans rfl)
          refine runsTo_mono11 (Q := fun uu w1 => w1 = x.now ∧ uu = (.pointer (some ⟨P.b, 0, none⟩) : Value)) ?_ (fun uu w1 ⟨h1, hq⟩ => ⟨cb, by subst h1; exact ⟨x.grows, by simpa using h29, by simpa using h30⟩, fun _ _ _ => rfl, .inr hq⟩)
          clear h29 h30
          go_simp
          all_goals exact ⟨rfl, rfl⟩
        | 9, ho, hD, hpre =>
          cases (show some _ = some oo' from ho)
          have e51 := ev_nfK (hV 8 51 rfl)
          refine runsTo_mono11 (Q := fun uu w1 => w1 = x.now ∧ uu = (.pointer (some ⟨P.b, 0, none⟩) : Value)) ?_ (fun uu w1 ⟨h1, hq⟩ => ⟨cb, by subst h1; exact ⟨x.grows, by simpa using h29, by simpa using h30⟩, fun _ _ _ => rfl, .inr hq⟩)
          clear h29 h30
          go_simp
          all_goals exact ⟨rfl, rfl⟩
        | 10, ho, hD, hpre =>
          cases (show some _ = some oo' from ho)
          have e52 := ev_nfK (hV 9 52 rfl)
          refine runsTo_mono11 (Q := fun uu w1 => w1 = x.now ∧ uu = (.pointer (some ⟨P.b, 2, none⟩) : Value)) ?_ (fun uu w1 ⟨h1, hq⟩ => ⟨cb, by subst h1; exact ⟨x.grows, by simpa using h29, by simpa using h30⟩, fun _ _ _ => rfl, .inr hq⟩)
          clear h29 h30
          go_simp
          all_goals exact ⟨rfl, rfl⟩
        | 11, ho, hD, hpre =>
          cases (show some _ = some oo' from ho)
          have e53 := ev_nfK (hV 10 53 rfl)
          refine runsTo_mono11 (Q := fun uu w1 => w1 = x.now ∧ uu = (.map (some P.bm) : Value)) ?_ (fun uu w1 ⟨h1, hq⟩ => ⟨cb, by subst h1; exact ⟨x.grows, by simpa using h29, by simpa using h30⟩, fun _ _ _ => rfl, .inr hq⟩)
          clear h29 h30
          go_simp
          all_goals exact ⟨rfl, rfl⟩
        | 12, ho, hD, hpre =>
          cases (show some _ = some oo' from ho)
          have e5 := ev_nfK ((hO 5 (notDstK (by kernel_rfl))).trans rfl)
          refine runsTo_mono11 (Q := fun uu w1 => w1 = x.now ∧ uu = (.slice (some ⟨gu, 0, none⟩) K.length cu : Value)) ?_ (fun uu w1 ⟨h1, hq⟩ => ⟨cb, by subst h1; exact ⟨x.grows, by simpa using h29, by simpa using h30⟩, fun _ _ _ => rfl, .inr hq⟩)
          clear h29 h30
          go_simp
          all_goals exact ⟨rfl, rfl⟩
        | 13, ho, hD, hpre =>
          cases (show some _ = some oo' from ho)
          have e8 := ev_nfK ((hO 8 (notDstK (by kernel_rfl))).trans rfl)
          refine runsTo_mono11 (Q := fun uu w1 => w1 = x.now ∧ uu = (.int .i64 (k : Int) : Value)) ?_ (fun uu w1 ⟨h1, hq⟩ => ⟨cb, by subst h1; exact ⟨x.grows, by simpa using h29, by simpa using h30⟩, fun _ _ _ => rfl, .inr hq⟩)
          clear h29 h30
          go_simp
          all_goals exact ⟨rfl, rfl⟩
        | 14, ho, hD, hpre =>
          cases (show some _ = some oo' from ho)
          have e55 := ev_nfK (hV 12 55 rfl)
          have e56 := ev_nfK (hV 13 56 rfl)
          refine runsTo_mono11 (Q := fun uu w1 => w1 = x.now ∧ uu = (.pointer (some ⟨gu, k, none⟩) : Value)) ?_ (fun uu w1 ⟨h1, hq⟩ => ⟨cb, by subst h1; exact ⟨x.grows, by simpa using h29, by simpa using h30⟩, fun _ _ _ => rfl, .inr hq⟩)
          clear h29 h30
          go_simp
          all_goals exact ⟨rfl, rfl⟩
        | 15, ho, hD, hpre =>
          cases (show some _ = some oo' from ho)
          have e57 := ev_nfK (hV 14 57 rfl)
          refine runsTo_mono11 (Q := fun uu w1 => w1 = x.now ∧ uu = (.int .i64 (ku : Int) : Value)) ?_ (fun uu w1 ⟨h1, hq⟩ => ⟨cb, by subst h1; exact ⟨x.grows, by simpa using h29, by simpa using h30⟩, fun _ _ _ => rfl, .inr hq⟩)
          clear h29 h30
          go_simp
          all_goals exact ⟨rfl, rfl⟩
        | 16, ho, hD, hpre =>
          cases (show some _ = some oo' from ho)
          have e1 := ev_nfK ((hO 1 (notDstK (by kernel_rfl))).trans rfl)
          refine runsTo_mono11 (Q := fun uu w1 => w1 = x.now ∧ uu = (.int .i64 (v : Int) : Value)) ?_ (fun uu w1 ⟨h1, hq⟩ => ⟨cb, by subst h1; exact ⟨x.grows, by simpa using h29, by simpa using h30⟩, fun _ _ _ => rfl, .inr hq⟩)
          clear h29 h30
          go_simp
          all_goals exact ⟨rfl, rfl⟩
        | 17, ho, hD, hpre =>
          cases (show some _ = some oo' from ho)
          have e58 := ev_nfK (hV 15 58 rfl)
          have e59 := ev_nfK (hV 16 59 rfl)
          refine runsTo_mono11 (Q := fun uu w1 => w1 = x.now ∧ uu = (.agg #[.int .i64 (ku : Int), .int .i64 (v : Int)] : Value)) ?_ (fun uu w1 ⟨h1, hq⟩ => ⟨cb, by subst h1; exact ⟨x.grows, by simpa using h29, by simpa using h30⟩, fun _ _ _ => rfl, .inr hq⟩)
          clear h29 h30
          go_simp
          all_goals exact ⟨rfl, rfl⟩
        | 18, ho, hD, hpre =>
          cases (show some _ = some oo' from ho)
          have e54 := ev_nfK (hV 11 54 rfl)
          have e60 := ev_nfK (hV 17 60 rfl)
          refine runsTo_mono11 (Q := fun uu w1 => w1 = x.now ∧ uu = (.int .i64 (ea : Int) : Value)) ?_ (fun uu w1 ⟨h1, hq⟩ => ⟨cb, by subst h1; exact ⟨x.grows, by simpa using h29, by simpa using h30⟩, fun _ _ _ => rfl, .inr hq⟩)
          clear h29 h30
          go_simp
          all_goals exact ⟨rfl, rfl⟩
        | 19, ho, hD, hpre =>
          cases (show some _ = some oo' from ho)
          have e0 := ev_nfK ((hO 0 (notDstK (by kernel_rfl))).trans rfl)
          refine runsTo_mono11 (Q := fun uu w1 => w1 = x.now ∧ uu = (.pointer (some ⟨P.b, 0, none⟩) : Value)) ?_ (fun uu w1 ⟨h1, hq⟩ => ⟨cb, by subst h1; exact ⟨x.grows, by simpa using h29, by simpa using h30⟩, fun _ _ _ => rfl, .inr hq⟩)
          clear h29 h30
          go_simp
          all_goals exact ⟨rfl, rfl⟩
        | 20, ho, hD, hpre =>
          cases (show some _ = some oo' from ho)
          have e62 := ev_nfK (hV 19 62 rfl)
          refine runsTo_mono11 (Q := fun uu w1 => w1 = x.now ∧ uu = (.pointer (some ⟨P.b, 0, none⟩) : Value)) ?_ (fun uu w1 ⟨h1, hq⟩ => ⟨cb, by subst h1; exact ⟨x.grows, by simpa using h29, by simpa using h30⟩, fun _ _ _ => rfl, .inr hq⟩)
          clear h29 h30
          go_simp
          all_goals exact ⟨rfl, rfl⟩
        | 21, ho, hD, hpre =>
          cases (show some _ = some oo' from ho)
          have e63 := ev_nfK (hV 20 63 rfl)
          refine runsTo_mono11 (Q := fun uu w1 => w1 = x.now ∧ uu = (.pointer (some ⟨P.b, 2, none⟩) : Value)) ?_ (fun uu w1 ⟨h1, hq⟩ => ⟨cb, by subst h1; exact ⟨x.grows, by simpa using h29, by simpa using h30⟩, fun _ _ _ => rfl, .inr hq⟩)
          clear h29 h30
          go_simp
          all_goals exact ⟨rfl, rfl⟩
        | 22, ho, hD, hpre =>
          cases (show some _ = some oo' from ho)
          have e64 := ev_nfK (hV 21 64 rfl)
          refine runsTo_mono11 (Q := fun uu w1 => w1 = x.now ∧ uu = (.map (some P.bm) : Value)) ?_ (fun uu w1 ⟨h1, hq⟩ => ⟨cb, by subst h1; exact ⟨x.grows, by simpa using h29, by simpa using h30⟩, fun _ _ _ => rfl, .inr hq⟩)
          clear h29 h30
          go_simp
          all_goals exact ⟨rfl, rfl⟩
        | 23, ho, hD, hpre =>
          cases (show some _ = some oo' from ho)
          have e1 := ev_nfK ((hO 1 (notDstK (by kernel_rfl))).trans rfl)
          refine runsTo_mono11 (Q := fun uu w1 => w1 = x.now ∧ uu = (.int .i64 (v : Int) : Value)) ?_ (fun uu w1 ⟨h1, hq⟩ => ⟨cb, by subst h1; exact ⟨x.grows, by simpa using h29, by simpa using h30⟩, fun _ _ _ => rfl, .inr hq⟩)
          clear h29 h30
          go_simp
          all_goals exact ⟨rfl, rfl⟩
        | 24, ho, hD, hpre =>
          cases (show some _ = some oo' from ho)
          have e9 := ev_nfK ((hO 9 (notDstK (by kernel_rfl))).trans rfl)
          refine runsTo_mono11 (Q := fun uu w1 => w1 = x.now ∧ uu = (.pointer (some ⟨b9, 0, none⟩) : Value)) ?_ (fun uu w1 ⟨h1, hq⟩ => ⟨cb, by subst h1; exact ⟨x.grows, by simpa using h29, by simpa using h30⟩, fun _ _ _ => rfl, .inr hq⟩)
          clear h29 h30
          go_simp
          all_goals exact ⟨rfl, rfl⟩
        | 25, ho, hD, hpre =>
          cases (show some _ = some oo' from ho)
          have e67 := ev_nfK (hV 24 67 rfl)
          refine runsTo_mono11 (Q := fun uu w1 => w1 = x.now ∧ uu = (.int .i64 (kt : Int) : Value)) ?_ (fun uu w1 ⟨h1, hq⟩ => ⟨cb, by subst h1; exact ⟨x.grows, by simpa using h29, by simpa using h30⟩, fun _ _ _ => rfl, .inr hq⟩)
          clear h29 h30
          go_simp
          all_goals exact ⟨rfl, rfl⟩
        | 26, ho, hD, hpre =>
          cases (show some _ = some oo' from ho)
          have e66 := ev_nfK (hV 23 66 rfl)
          have e68 := ev_nfK (hV 25 68 rfl)
          refine runsTo_mono11 (Q := fun uu w1 => w1 = x.now ∧ uu = (.agg #[.int .i64 (v : Int), .int .i64 (kt : Int)] : Value)) ?_ (fun uu w1 ⟨h1, hq⟩ => ⟨cb, by subst h1; exact ⟨x.grows, by simpa using h29, by simpa using h30⟩, fun _ _ _ => rfl, .inr hq⟩)
          clear h29 h30
          go_simp
          all_goals exact ⟨rfl, rfl⟩
        | 27, ho, hD, hpre =>
          cases (show some _ = some oo' from ho)
          have e65 := ev_nfK (hV 22 65 rfl)
          have e69 := ev_nfK (hV 26 69 rfl)
          refine runsTo_mono11 (Q := fun uu w1 => w1 = x.now ∧ uu = (.int .i64 (eb : Int) : Value)) ?_ (fun uu w1 ⟨h1, hq⟩ => ⟨cb, by subst h1; exact ⟨x.grows, by simpa using h29, by simpa using h30⟩, fun _ _ _ => rfl, .inr hq⟩)
          clear h29 h30
          go_simp
          all_goals exact ⟨rfl, rfl⟩
        | 28, ho, hD, hpre =>
          cases (show some _ = some oo' from ho)
          have e46 := ev_nfK (hV 3 46 rfl)
          have e48 := ev_nfK (hV 5 48 rfl)
          have e50 := ev_nfK (hV 7 50 rfl)
          have e61 := ev_nfK (hV 18 61 rfl)
          have e70 := ev_nfK (hV 27 70 rfl)
          refine runsTo_mono11 (Q := fun uu w1 => w1 = x.now ∧ uu = (.agg #[.int .i64 (ku : Int), .int .i64 (kt : Int), .int .u64 (kw : Int), .int .i64 (-1), .int .i64 (ea : Int), .int .i64 (eb : Int)] : Value)) ?_ (fun uu w1 ⟨h1, hq⟩ => ⟨cb, by subst h1; exact ⟨x.grows, by simpa using h29, by simpa using h30⟩, fun _ _ _ => rfl, .inr hq⟩)
          clear h29 h30
          go_simp
          all_goals exact ⟨rfl, rfl⟩
        | 29, ho, hD, hpre =>
          cases (show some _ = some oo' from ho)
          have n29 : D 29 = false := hD
          have n30 : D 30 = false := by
            cases hd : D 30 with
            | false => rfl
            | true => exact absurd (hcl 30 29 hd (by kernel_rfl)) (by rw [n29]; exact Bool.false_ne_true)
          have h4 : Grows x.now (x.now.alloc (.cells #[.int .i64 0, .int .i64 0, .int .u64 0, .int .i64 0, .int .i64 0, .int .i64 0] 95)) := (Grows.refl _).new _
          refine runsTo_mono11 (Q := fun uu w1 => w1 = x.now.alloc (.cells #[.int .i64 0, .int .i64 0, .int .u64 0, .int .i64 0, .int .i64 0, .int .i64 0] 95) ∧ uu = (.pointer (some ⟨x.now.heap.size, 0, none⟩) : Value)) ?_ (fun uu w1 hq => ?_)
          · clear h29 h30
            go_simp
            all_goals exact ⟨rfl, rfl⟩
          · obtain ⟨h8, h1⟩ := hq
            subst h8
            refine ⟨x.now.heap.size, ⟨x.grows.trans h4, fun _ _ => ⟨Arr.make _ _ _, x.size⟩, fun hd => absurd hd (by simp [n30])⟩, fun j _ hDj => ?_, .inr h1⟩
            · match j, hDj with
              | 0, _ => rfl
              | 1, _ => rfl
              | 2, _ => rfl
              | 3, _ => rfl
              | 4, _ => rfl
              | 5, _ => rfl
              | 6, _ => rfl
              | 7, _ => rfl
              | 8, _ => rfl
              | 9, _ => rfl
              | 10, _ => rfl
              | 11, _ => rfl
              | 12, _ => rfl
              | 13, _ => rfl
              | 14, _ => rfl
              | 15, _ => rfl
              | 16, _ => rfl
              | 17, _ => rfl
              | 18, _ => rfl
              | 19, _ => rfl
              | 20, _ => rfl
              | 21, _ => rfl
              | 22, _ => rfl
              | 23, _ => rfl
              | 24, _ => rfl
              | 25, _ => rfl
              | 26, _ => rfl
              | 27, _ => rfl
              | 28, _ => rfl
              | 29, hDj => exact absurd hDj (by rw [n29]; exact Bool.false_ne_true)
              | 30, _ => rfl
              | n + 31, _ => rfl
        | 30, ho, hD, hpre =>
          cases (show some _ = some oo' from ho)
          have e10 := ev_nfK (hV 29 10 rfl)
          have e71 := ev_nfK (hV 28 71 rfl)
          have n30 : D 30 = false := hD
          obtain ⟨z1, z2⟩ := h29 (hpre 29 (by kernel_rfl)) n30
          refine runsTo_mono11 (Q := fun uu w2 => w2 = st6c x.now cb (.int .i64 (ku : Int)) (.int .i64 (kt : Int)) (.int .u64 (kw : Int)) (.int .i64 (-1)) (.int .i64 (ea : Int)) (.int .i64 (eb : Int))) ?_ (fun uu w2 h1 => ⟨cb, ⟨by rw [h1]; exact (st6c_touch x.now cb _ _ _ _ _ _).later x.grows (fun k hk => by rw [hk]; exact z2), fun _ hd => absurd hd (by simp), fun _ => ⟨by rw [h1]; exact st6c_is z1 _ _ _ _ _ _, z2⟩⟩, fun _ _ _ => rfl, .inl rfl⟩)
          unfold st6c
          clear h29 h30
          go_simp
          all_goals rfl
        | n + 31, ho, hD, hpre => cases ho
      case he5 =>
        subst hVV
        intro cb wz hM
        simp only [putAll, dstOf, List.length_cons, List.length_nil, Nat.reduceAdd, List.getElem?_cons_zero, List.getElem?_cons_succ, Option.bind_some, List.getD_cons_zero, List.getD_cons_succ, Act.put, List.setIfInBounds_toArray, List.set_cons_zero, List.set_cons_succ]
        obtain ⟨hgz, -, h30⟩ := hM
        obtain ⟨ab, -⟩ := h30 rfl
        clear h30 hcore hlk1 hlk2 a9
        have hgy : Grows wr wz := y5.grows.trans hgz
        obtain ⟨z, rfl⟩ := hgy.later
        have CAD := hide (fun (W : World) (hg : Grows wr W) => coAdd P ck ku kt kw (-1) (ea : Int) (eb : Int) (fun j => S j ∨ New W1 wr j) W (HCK.out.grow hg) (fun j hj => by
          rcases hj with hj | hj
          · have h1 := HSW.out j hj
            have h2 := hgW.size
            have h3 := HTT.out.size
            have h4 := hg.size
            omega
          · exact Nat.lt_of_lt_of_le hj.2 hg.size) HN1.out e1 e2 (by omega) (by have := HN2.out; omega) (by have := HN3.out ku; omega) (by omega) ⟨by decide, by decide⟩ ⟨by omega, by omega⟩ ⟨by omega, by omega⟩)
        unfold scVal at CAD
        dsimp only at CAD
        go_wp2_with (go_at_call 112; refine (CAD.out _ GG).mono ?_; rintro e w2 ⟨rfl, hc2, ht2⟩; have HF := hide (add_after HTT.out (show Grows wr _ from GG) ht2 hc2); clear hc2 ht2)
        exact ⟨⟨k + 1, by omega, by go_num, HF.out.1, by rw [HKS.out]; exact HF.out.2⟩, by simp [Go.RowKit.intOf]; omega⟩
    · obtain rfl : k = K.length := by omega
      rw [List.take_length] at HCK
      obtain ⟨R8, hX8, hS8⟩ := HCK.out
      have hcore := hX8.core
      unfold CorePl.cells at hcore
      have gl8 := hX8.glen
      have hX9d : (Ctr.adds v K c).D.length = P.N := hX8.dlen
      have mg : Mine wr ⟨P.gg, v, none⟩ (.bool (bb (Ctr.adds v K c).G v)) := hX8.gone.mine v (by simp [bb, show v < (Ctr.adds v K c).G.length by omega])
      have HX9 := hide (hX8.goned v)
      have HT9 := hide (HTT.out.set (p := ⟨P.gg, v, none⟩) (by
        rcases hS8 P.gg (.inr (.inr (.inl rfl))) with h | h
        · exact .inl h
        · exact .inr h.1) (.bool true))
      have HS8 := hide (show ∀ k, CoreBl P R8 k → S k ∨ New W1 (wr.setCell ⟨P.gg, v, none⟩ (.bool true)) k from fun k hk => (hS8 k hk).imp id (fun h => ⟨h.1, by rw [size_setCell]; exact h.2⟩))
      clear hX8 hS8
      go_upto_region 9 with fail
      generalize wr.setCell ⟨P.gg, v, none⟩ (.bool true) = W9 at *
      have ix := fun (W : World) (j : Nat) (hj : j < 2) => (show (Instr.index 190 (.agg #[.map (some m1), .map (some m2)]) (.int .i64 (j : Int))).run Try.prog W = .ok (.map (some (if j = 0 then m1 else m2))) W from by
        rcases (by omega : j = 0 ∨ j = 1) with rfl | rfl <;> rfl)
      have HIX := hide ix
      clear ix
      have HD0 := hide (show (Ctr.adds v K c).D.length = P.N from hX9d)
      have HDV := hide (show gn (Ctr.adds v K c).D v ≤ 1000000 by rw [adds_D]; exact hdv)
      clear hdv mg hcore gl8 HCK hA1 hA2 hlt hk HTT HO1b HO2b hB1 hB2 hC0 HKM HKW HAD HN HL HSS hKL
      generalize Ctr.adds v K c = d at *
      go_wp2_with fail
      go_loopw [86] (fun s wr' => ∃ j : Nat, j ≤ 2 ∧ s = .int .i64 (j : Int) ∧ Touch S W1 wr' ∧ ∃ D', DpIs d.D D' v (fun x => (0 < j ∧ (tf.1 x).isSome = true) ∨ (1 < j ∧ (tf.2 x).isSome = true)) ∧ CoreX wr' P R8 (fun _ => True) ⟨d.O, d.G.set v true, d.at_, d.S, D'⟩ d.S.length d.S.length d.S ∧ ∀ k, CoreBl P R8 k → S k ∨ New W1 wr' k) (fun s _ => 2 - (Go.RowKit.intOf s).toNat)
      case atStart => exact ⟨0, by omega, by go_num, HT9.out, d.D, DpIs.start _ _ (fun x h => by omega), HX9.out, HS8.out⟩
      case round =>
        obtain ⟨j, hj, rfl, htj, D', hdp, hxj, hsj⟩ := hrel
        have HTJ := hide htj
        have HDP := hide hdp
        have HXJ := hide hxj
        have HSJ := hide hsj
        clear htj hdp hxj hsj
        by_cases hlt : j < 2
        · obtain ⟨mj, hmj⟩ : ∃ m, m = if j = 0 then m1 else m2 := ⟨_, rfl⟩
          obtain ⟨tj, htj⟩ : ∃ t : LM, t = if j = 0 then tf.1 else tf.2 := ⟨_, rfl⟩
          have ix := fun W => HIX.out W j hlt
          have hdj : decide ((j : Int) < 2) = true := decide_eq_true (by omega)
          rw [← hmj] at ix
          have HMJ := hide (show MapIU wr mj 1000000000 (szL tj P.N) (lmF tj) ∧ w.heap.size ≤ mj ∧ mj < W1.heap.size from by
            have k1 := HM1.out.touch HTJ.out (fun e => by have := HSW.out _ e; have := hB3.out; omega)
            have k2 := HM2.out.touch HTJ.out (fun e => by have := HSW.out _ e; have := hB3.out; omega)
            have k3 := hB3.out
            rw [hmj, htj]
            by_cases e : j = 0
            · rw [if_pos e, if_pos e]; exact ⟨k1, k3.1, k3.2.1⟩
            · rw [if_neg e, if_neg e]; exact ⟨k2, k3.2.2.1, k3.2.2.2.1⟩)
          obtain ⟨⟨D, hD1, hD2, hD3, hD4⟩, hD5, hD6⟩ := HMJ.out
          have HD := hide hD1
          have HH3 := hide hD3
          have HMB := hide hmj
          have HTB := hide htj
          clear hD1 hD2 hD3 hD4 hmj htj HMJ HM1 HM2
          go_wp2_with (at_range; refine wpList_range_own _ rfl _ 152 rfl 3 38 keyedI Try.underlying152 _ mj 1000000000 D rfl HD.out ?_; intro w0 hrg0 hg0 hs0)
          have t0 : Touch S wr w0 := (Touch.refl S wr).grown hg0 (fun k hk => by cases hk)
          have t0' : Touch (fun _ => False) wr w0 := (Touch.refl _ wr).grown hg0 (fun k hk => by cases hk)
          have HT0 := hide (HTJ.out.trans t0)
          have HX0 := hide (HXJ.out.touch t0' (fun _ _ => id))
          have HS0 := hide (show ∀ k, CoreBl P R8 k → S k ∨ New W1 w0 k from fun k hk => (HSJ.out k hk).imp id (fun h => ⟨h.1, Nat.lt_of_lt_of_le h.2 t0.size⟩))
          have HRG0 := hide hrg0
          have hWr : W1.heap.size ≤ wr.heap.size := HTJ.out.size
          have HBR := hide (show ∀ k, CoreBl P R8 k → k < wr.heap.size from HXJ.out.bl_lt)
          have HQV := hide (show ∀ u, (tj u).isSome = true → u ≠ v ∧ u < P.N from fun u hu => by
            rw [HTB.out] at hu
            by_cases e : j = 0
            · rw [if_pos e] at hu; exact HT1.out u hu
            · rw [if_neg e] at hu; exact HT2.out u hu)
          generalize wr.heap.size = r at *
          clear hrg0 hg0 hs0 t0 t0' HTJ HXJ HSJ HD
          go_frame
          go_loopw [13] (fun _ wr' => ∃ (left : Lit → Bool) (cnt : Nat) (D2 : List Nat), DpIs d.D D2 v (fun x => ((0 < j ∧ (tf.1 x).isSome = true) ∨ (1 < j ∧ (tf.2 x).isSome = true)) ∨ ((tj x).isSome = true ∧ left (.int .i64 (x : Int)) = false)) ∧ wr'.ranges Try.prog 3 (plainElem Try.prog 38) mj r 1000000000 D left cnt ∧ Touch S W1 wr' ∧ CoreX wr' P R8 (fun _ => True) ⟨d.O, d.G.set v true, d.at_, d.S, D2⟩ d.S.length d.S.length d.S ∧ ∀ k, CoreBl P R8 k → S k ∨ New W1 wr' k) (fun _ wr' => wr'.rangeLeft mj r)
          case atStart => exact ⟨_, _, D', HDP.out.congr (fun x _ => by
            constructor
            · exact fun h => .inl h
            · rintro (h | ⟨h1, h2⟩)
              · exact h
              · rw [HH3.out, lmF_at] at h2
                rw [Option.isSome_map] at h2
                rw [h1] at h2; cases h2), HRG0.out, HT0.out, HX0.out, HS0.out⟩
          case round =>
            obtain ⟨left, cnt, D2, hdp, hrg, htt, hxx, hss⟩ := hrel
            have HDP2 := hide hdp
            have HRG := hide hrg
            have HTT2 := hide htt
            have HXX := hide hxx
            have HSS2 := hide hss
            clear hdp hrg htt hxx hss HDP HRG0 HT0 HX0 HS0
            go_wp2_with (at_next; refine wpList_next_ranges_ii _ rfl _ rfl 3 38 .i64 .u64 keyedI Try.underlying3 Try.underlying38 mj r 1000000000 D left cnt rfl HRG.out ?_ ?_)
            · intro hc0 hl0
              have HDQ := hide (HDP2.out.congr (Q' := fun x => (0 < j + 1 ∧ (tf.1 x).isSome = true) ∨ (1 < j + 1 ∧ (tf.2 x).isSome = true)) (fun x _ => by
                rw [HTB.out]
                rcases (by omega : j = 0 ∨ j = 1) with rfl | rfl
                · simp [hl0]
                · simp [hl0]))
              clear HDP2 HRG hc0 hl0
              go_wp2_with fail
              exact ⟨⟨j + 1, by omega, by go_num, HTT2.out, D2, HDQ.out, HXX.out, HSS2.out⟩, by simp [Go.RowKit.intOf]; omega⟩
            · intro x cc w1 cnt1 hwx hwc hlx hat hrg1 hltc hg1 hs1 hen
              have hxs : (lmF tj x).isSome = true := by rw [← HH3.out]; exact Maps.has_true_of_atKey hat
              have hx0 : 0 ≤ x := by
                rcases Int.lt_or_le x 0 with h | h
                · exact absurd hxs (by simp [lmF, show ¬ 0 ≤ x by omega])
                · exact h
              obtain ⟨u, rfl⟩ : ∃ u : Nat, x = (u : Int) := ⟨x.toNat, by omega⟩
              rw [lmF_at, Option.isSome_map] at hxs
              obtain ⟨q1, q2⟩ := HQV.out u hxs
              have hqv : ¬ (((0 < j ∧ (tf.1 v).isSome = true) ∨ (1 < j ∧ (tf.2 v).isSome = true)) ∨ ((tj v).isSome = true ∧ left (.int .i64 (v : Int)) = false)) := by
                rintro ((h | h) | h)
                · exact (HT1.out v h.2).1 rfl
                · exact (HT2.out v h.2).1 rfl
                · exact (HQV.out v h.1).1 rfl
              have hdv2 : gn D2 v ≤ 1000000 := by rw [(HDP2.out.2 v (by rw [HD0.out]; exact hv)).2 hqv]; exact HDV.out
              have t1 : Touch (fun k => k = r) wr w1 := (Touch.refl _ wr).grown hg1 (fun k hk => .inl (by injection hk with hk; exact hk.symm))
              have HX1 := hide (HXX.out.touch t1 (fun k hk e => by have := HBR.out k hk; omega))
              have HTW := hide (HTT2.out.trans2 t1 (fun k hk => .inr (by rw [hk]; exact hWr)))
              have HSW1 := hide (show ∀ k, CoreBl P R8 k → S k ∨ New W1 w1 k from fun k hk => (HSS2.out k hk).imp id (fun h => ⟨h.1, Nat.lt_of_lt_of_le h.2 t1.size⟩))
              have HDN := hide ((HDP2.out.put (u := u) (by rw [HD0.out]; exact hv) hqv).congr (Q' := fun x => ((0 < j ∧ (tf.1 x).isSome = true) ∨ (1 < j ∧ (tf.2 x).isSome = true)) ∨ ((tj x).isSome = true ∧ (left (.int .i64 (x : Int)) && !(Lit.int .i64 (x : Int)).sameKey (.int .i64 (u : Int))) = false)) (fun x _ => by
                by_cases e : x = u
                · subst e
                  simp [hxs, Lit.sameKey]
                · simp [e, Lit.sameKey, show ¬ (x : Int) = (u : Int) by omega]))
              have HRG1 := hide hrg1
              have HLT := hide hltc
              have dl2 : D2.length = P.N := by have := HX1.out.dlen; exact this
              have mu : Mine w1 ⟨P.gd, u, none⟩ (.int .i64 (gn D2 u : Int)) := HX1.out.deep.mine u (by simp [nv, gn, show u < D2.length by omega])
              have mv : Mine w1 ⟨P.gd, v, none⟩ (.int .i64 (gn D2 v : Int)) := HX1.out.deep.mine v (by simp [nv, gn, show v < D2.length by omega])
              have hcore := HX1.out.core
              unfold CorePl.cells at hcore
              unfold dpS at HDN
              have hwrp : IntKind.i64.wrap ((gn D2 v : Int) + 1) = ((gn D2 v + 1 : Nat) : Int) := by rw [IntWalk.i64_in _ (by omega)]; omega
              clear hwx hwc hlx hat hrg1 hltc hg1 hs1 hxs hx0 hqv t1 HDP2 HXX HSS2 HTT2
              go_upto_region 15 with fail
              (refine wp_region_tail1 22 (by kernel_rfl) (by kernel_rfl) ?_; simp only [List.take_succ_cons, List.take_zero, List.drop_succ_cons, List.drop_zero]; (repeat' (first | (refine gLex_val0 rfl (by kernel_rfl) (fun K hK => ?_); (go_simp; (try (simp only [↓IntWalk.iteOmega]; try go_simp)); (try simp (disch := omega) only [IntWalk.i64_in]); (try simp (disch := omega) only [IntWalk.u64_in]); first | (refine hK _ ?_; clear hK K) | (apply Exists.intro; refine ⟨fun x => ?_, hK _ ?_⟩; (first | fail); clear hK K))) | (refine gLex_undef rfl rfl rfl (by kernel_rfl) (fun K hK => ?_); go_simp; refine hK _ ?_; clear hK K) | (refine gLex_ask rfl rfl rfl ?_; first | (apply gAsk_yes; kernel_rfl; intro K hK; (go_simp; (try (simp only [↓IntWalk.iteOmega]; try go_simp)); (try simp (disch := omega) only [IntWalk.i64_in]); (try simp (disch := omega) only [IntWalk.u64_in]); first | (refine hK _ ?_; clear hK K) | (apply Exists.intro; refine ⟨fun x => ?_, hK _ ?_⟩; (first | fail); clear hK K))) | ((first | apply gAsk_no1 | apply gAsk_no2); kernel_rfl; intro K hK; simp [go_sem]; refine hK _ ?_; clear hK K)))); refine gLex_endT (fun x => ?_))
              go_wp2_with fail
              have hmx : max (gn D2 u : Int) ((gn D2 v : Int) + 1) = ((max (gn D2 u) (gn D2 v + 1) : Nat) : Int) := by omega
              rw [hmx]
              have tz : Touch (fun k => k = P.gd) w1 (x.now.setCell ⟨P.gd, u, none⟩ (.int .i64 ((max (gn D2 u) (gn D2 v + 1) : Nat) : Int))) := (x.grows.touch (fun k => k = P.gd)).set (p := ⟨P.gd, u, none⟩) (.inl rfl) _
              have hgd := HSW1.out P.gd (.inr (.inr (.inr (.inr (.inl rfl)))))
              have hgr := HBR.out P.gd (.inr (.inr (.inr (.inr (.inl rfl)))))
              have hmg : mj ≠ P.gd := fun e => by
                rcases hgd with h | h
                · have := HSW.out _ h; omega
                · have := h.1; omega
              have HRZ := hide (ranges_touch HRG1.out tz hmg (by omega))
              have HXZ := hide ((HX1.out.grow x.grows).deeper u (max (gn D2 u) (gn D2 v + 1)))
              have HTZ := hide (HTW.out.trans2 tz (fun k hk => by
                rw [hk]
                exact hgd.imp id (fun h => h.1)))
              have HSZ := hide (show ∀ k, CoreBl P R8 k → S k ∨ New W1 (x.now.setCell ⟨P.gd, u, none⟩ (.int .i64 ((max (gn D2 u) (gn D2 v + 1) : Nat) : Int))) k from fun k hk => (HSW1.out k hk).imp id (fun h => ⟨h.1, Nat.lt_of_lt_of_le h.2 tz.size⟩))
              clear hmx tz
              generalize x.now.setCell ⟨P.gd, u, none⟩ (.int .i64 ((max (gn D2 u) (gn D2 v + 1) : Nat) : Int)) = wz at *
              go_roundw
              case measure => rw [HRZ.out.left_eq, HRG.out.left_eq]; exact HLT.out
              case rel => first | exact ⟨_, cnt1, _, HDN.out, HRZ.out, HTZ.out, HXZ.out, HSZ.out⟩ | exact ⟨_, _, _, _, _, _, _, _, _, _, _, _, _, _, _, _, _, _, _, _, _, _, _, _, _, _, _, ⟨_, cnt1, _, HDN.out, HRZ.out, HTZ.out, HXZ.out, HSZ.out⟩, rfl⟩
        · obtain rfl : j = 2 := by omega
          go_wp2_with fail
          first | go_end0 | (rw [Exit.noGoto_normal]; go_end0)
          have e : D' = deepL d.D tf v := (HDP.out.congr (Q' := fun x => (tf.1 x).isSome = true ∨ (tf.2 x).isSome = true) (fun x _ => by simp)).deep
          subst e
          rw [HGO.out]
          refine ⟨rfl, ⟨R8, HXJ.out, fun k hk => (HSJ.out k hk).imp id (fun h => ⟨Nat.le_trans hgW.size h.1, h.2⟩)⟩, (hgW.touch S).trans HTJ.out⟩
end Go.Proofs.Ytgplpgldhoelcaa

