/- Contract: what a node would cost now. -/
import Derived.Test.YtgplpgldhoelcaaQChangeAgain20
import Derived.Test.YtgplpgldhoelcaaQChangeAgain22
import Derived.Test.YtgplpgldhoelcaaQChangeAgain08
import Derived.Test.YtgplpgldhoelcaaQChangeAgain07
import Derived.ScopeJumps
import Derived.Test.YtgplpgldhoelcaaQChangeAgain04
import Derived.Test.YtgplpgldhoelcaaQChangeAgain01
import Derived.Test.YtgplpgldhoelcaaQChangeAgain06
import Derived.Test.YtgplpgldhoelcaaQChangeAgain16
namespace Go.Proofs.Ytgplpgldhoelcaa
open Go Go.RowKit
attribute [local go_sem] Oper.semAt_some
theorem MapIU.len {w : World} {b n s : Nat} {f : Int → Option Int} (h : MapIU w b n s f) (ty : TypeId) : (Builtin.len_ #[152] ty #[.map (some b)]).run Try.prog w = .ok (.int .i64 (s : Int)) w := by
  obtain ⟨D, h1, h2, h3, h4⟩ := h
  have := h1.len (t := 152) Try.underlying152 ty
  rw [h2] at this
  exact this
set_option maxRecDepth 20000 in
set_option maxHeartbeats 2000000 in
theorem coDiff (Ao Ag : Option Addr) (co cg v hops settles : Nat) (rk : Value) (O : NetO) (G : List Bool) (w : World) (h : NetRd w Ao Ag O G) (hin : NIn O) (hv : v < O.length) (hN : O.length ≤ 4096) (hW : ∀ v a, a ∈ ga O v → a.2 ≤ 1152921504606846976) (hlen : ∀ v, (ga O v).length ≤ 100000) (hh : hops ≤ 1000) (hs : settles ≤ 1000) :
    Calls Try.prog 147 #[.agg #[.slice Ao O.length co, .slice Ag O.length cg], .int .i64 (v : Int), .agg #[.int .i64 (hops : Int), .int .i64 (settles : Int), rk]] w fun e w' => e = .returned (.int .i64 ((keptL O G hops settles v).length - (szL (lightest O G v).1 O.length : Int) - (szL (lightest O G v).2 O.length : Int))) ∧ Grows w w' := by
  have CK := hide (fun (W : World) (g : Grows w W) => coKept Ao Ag co cg v hops settles rk O G W (h.grows g) hin hv hN hW hlen hh hs)
  have CL := hide (fun (W : World) (g : Grows w W) => coLightest Ao Ag co cg v O G W (h.grows g) hin hv hN hW hlen)
  have hK : (keptL O G hops settles v).length ≤ 16777216 := Nat.le_trans kept_le (Nat.mul_le_mul hN hN)
  have hsz : ∀ m : LM, szL m O.length ≤ 4096 := fun m => by
    unfold szL
    have := List.length_filter_le (fun u => (m u).isSome) (List.range O.length)
    simp at this
    omega
  have hs1 := hsz (lightest O G v).1
  have hs2 := hsz (lightest O G v).2
  unfold GiveKp at CK
  clear h hin hW hlen hh hs hv hN hsz
  generalize keptL O G hops settles v = K at *
  generalize szL (lightest O G v).1 O.length = s1 at *
  generalize szL (lightest O G v).2 O.length = s2 at *
  generalize (lightest O G v).1 = m1 at *
  generalize (lightest O G v).2 = m2 at *
  generalize O.length = N at *
  go_enter Try.func147, Try.ntmps147
  go_wp2_with (first
    | (go_at_call 38; refine (CK.out _ GG).mono ?_; rintro e w' ⟨Al, cl, Au, cu, rfl, _, _, hg⟩; obtain ⟨x1, rfl⟩ := hg.later; clear hg)
    | (go_at_call 76; refine (CL.out _ GG).mono ?_; rintro e w' ⟨b1, b2, rfl, hm1, hm2, _, _, _, hg⟩; obtain ⟨x2, rfl⟩ := hg.later; clear hg; have ml1 := fun ty => hm1.len ty; have ml2 := fun ty => hm2.len ty; clear hm1 hm2))
  go_ret
  exact ⟨rfl, GG⟩
set_option maxRecDepth 20000 in
set_option maxHeartbeats 2000000 in
theorem coKey (P : CorePl) (R : CoreRw) (c : Ctr) (nm nl v : Nat) (L : List Sc) (w : World) (hX : CoreX w P R (fun _ => True) c nm nl L) (hn : CtN P.N c) (hv : v < P.N) (hN : P.N ≤ 100) (hW : ∀ v a, a ∈ ga c.O v → a.2 ≤ 1152921504606846976) (hl : ∀ u, (ga c.O u).length ≤ 80000) (hd : gn c.D v ≤ 1000000) (hh : P.hops ≤ 1000) (hst : P.settles ≤ 1000) :
    Calls Try.prog 115 #[.pointer (some ⟨P.b, 0, none⟩), .int .i64 (v : Int)] w fun e w' => e = .returned (.int .u64 (keyN P.hops P.settles c v : Int)) ∧ Grows w w' := by
  have ol := hX.olen
  have CD := hide (fun (W : World) (g : Grows w W) => coDiff (some ⟨P.go, 0, none⟩) (some ⟨P.gg, 0, none⟩) P.N P.N v P.hops P.settles P.rk c.O c.G W (hX.net.grows g) hn.nin (by omega) (by omega) hW (fun u => Nat.le_trans (hl u) (by omega)) hh hst)
  have hK : (keptL c.O c.G P.hops P.settles v).length ≤ 16777216 := Nat.le_trans kept_le (Nat.mul_le_mul (show c.O.length ≤ 4096 by omega) (show c.O.length ≤ 4096 by omega))
  have hsz := szTF_le c v c.O.length
  have hcore := hX.core
  unfold CorePl.cells at hcore
  have hk : (keyN P.hops P.settles c v : Int) = 1099511627776 + ((keptL c.O c.G P.hops P.settles v).length - (szL (lightest c.O c.G v).1 c.O.length : Int) - (szL (lightest c.O c.G v).2 c.O.length : Int)) + 2 * (gn c.D v : Int) := by
    unfold keyN
    unfold szTF at hsz ⊢
    omega
  have hb : -1000 ≤ ((keptL c.O c.G P.hops P.settles v).length - (szL (lightest c.O c.G v).1 c.O.length : Int) - (szL (lightest c.O c.G v).2 c.O.length : Int)) ∧ ((keptL c.O c.G P.hops P.settles v).length - (szL (lightest c.O c.G v).1 c.O.length : Int) - (szL (lightest c.O c.G v).2 c.O.length : Int)) ≤ 16777216 := by
    unfold szTF at hsz
    omega
  have hdm := hX.deep.mine v (nv_at (by rw [hX.dlen]; exact hv))
  rw [hk]
  rw [ol] at CD hb ⊢
  have m0 : Mine w ⟨P.b, 0, none⟩ _ := hcore.mine 0 rfl
  have m1 : Mine w ⟨P.b, 1, none⟩ _ := hcore.mine 1 rfl
  have m4 : Mine w ⟨P.b, 4, none⟩ _ := hcore.mine 4 rfl
  have m5 : Mine w ⟨P.b, 5, none⟩ _ := hcore.mine 5 rfl
  have m6 : Mine w ⟨P.b, 6, none⟩ _ := hcore.mine 6 rfl
  have m7 : Mine w ⟨P.b, 7, none⟩ _ := hcore.mine 7 rfl
  clear hX hn hW hl hK hsz hk hcore ol hh hst
  generalize ((keptL c.O c.G P.hops P.settles v).length - (szL (lightest c.O c.G v).1 P.N : Int) - (szL (lightest c.O c.G v).2 P.N : Int)) = z at *
  generalize gn c.D v = d at *
  have hNP : (v : Int) < (P.N : Int) := by omega
  obtain ⟨hb1, hb2⟩ := hb
  go_enter Try.func115, Try.ntmps115
  go_upto_region 0 with fail
  go_wp2_with fail
  ((first | refine wp_region_gen2 (by kernel_rfl) (by kernel_rfl) ?_ | refine wp_region_gen (by kernel_rfl) (by kernel_rfl) ?_); (repeat' (first | (refine gLex_val0 rfl (by kernel_rfl) (fun K hK => ?_); (go_simp; (try (simp only [↓IntWalk.iteOmega]; try go_simp)); (try simp (disch := omega) only [IntWalk.i64_in]); (try simp (disch := omega) only [IntWalk.u64_in]); first | (refine hK _ ?_; clear hK K) | (apply Exists.intro; refine ⟨fun x => ?_, hK _ ?_⟩; (first | (go_at_call 147; exact CD.out _ GG)); clear hK K))) | (refine gLex_undef rfl rfl rfl (by kernel_rfl) (fun K hK => ?_); go_simp; refine hK _ ?_; clear hK K) | (refine gLex_ask rfl rfl rfl ?_; first | (apply gAsk_yes; kernel_rfl; intro K hK; (go_simp; (try (simp only [↓IntWalk.iteOmega]; try go_simp)); (try simp (disch := omega) only [IntWalk.i64_in]); (try simp (disch := omega) only [IntWalk.u64_in]); first | (refine hK _ ?_; clear hK K) | (apply Exists.intro; refine ⟨fun x => ?_, hK _ ?_⟩; (first | (go_at_call 147; exact CD.out _ GG)); clear hK K))) | ((first | apply gAsk_no1 | apply gAsk_no2); kernel_rfl; intro K hK; simp [go_sem]; refine hK _ ?_; clear hK K) | (apply gAsk_part; kernel_rfl; all_goals (intro h K hK; (try simp only [Bool.not_true] at h); (try simp only [Bool.not_false] at h); (try simp only [decide_eq_true_eq] at h); (try simp only [decide_eq_false_iff_not] at h); first | (exfalso; first | contradiction | omega) | (go_simp; (try (simp only [↓IntWalk.iteOmega]; try go_simp)); (try simp (disch := omega) only [IntWalk.i64_in]); (try simp (disch := omega) only [IntWalk.u64_in]); first | (refine hK _ ?_; clear hK K) | (apply Exists.intro; refine ⟨fun x => ?_, hK _ ?_⟩; (first | (go_at_call 147; exact CD.out _ GG)); clear hK K))))))); all_goals ((apply gLex_end); intro y))
  go_wp2
  go_ret
  exact ⟨rfl, GG⟩
end Go.Proofs.Ytgplpgldhoelcaa

namespace Go.Proofs.Ytgplpgldhoelcaa
open Go Go.RowKit
def nearB (x : Srch) (d : List Nat) (v i : Nat) : Bool := decide (gn d (tN x.E i) < farV) && decide (gn d (tN x.E i) + gn x.W i = gn d v) && !x.ne i
inductive Fol (x : Srch) (d : List Nat) (t : Nat) : Nat → List Nat → Prop
  | here : Fol x d t t []
  | step {v i : Nat} {l : List Nat} : v ≠ t → i < x.E.length → fN x.E i = v → nearB x d v i = true → (∀ j, j < i → fN x.E j = v → nearB x d v j = false) → Fol x d t (tN x.E i) l → Fol x d t v (i :: l)
structure Near (x : Srch) (d : List Nat) (t : Nat) : Prop where
  ends : ∀ i, i < x.E.length → fN x.E i < x.N ∧ tN x.E i < x.N
  low : ∀ i, i < x.E.length → 1 ≤ gn x.W i
  zero : gn d t = 0
  by_ : ∀ v, v < x.N → v ≠ t → gn d v < farV → ∃ i, i < x.E.length ∧ fN x.E i = v ∧ nearB x d v i = true
  edge : ∀ i, i < x.E.length → cntE x i = true → gn d (tN x.E i) < farV → gn d (fN x.E i) ≤ gn d (tN x.E i) + gn x.W i
  clean : ∀ v, v < x.N → gn d v < farV → x.nn v = false
theorem nearB_yes {x : Srch} {d : List Nat} {v i : Nat} (h : nearB x d v i = true) : gn d (tN x.E i) < farV ∧ gn d (tN x.E i) + gn x.W i = gn d v ∧ x.ne i = false := by
  unfold nearB at h
  simp only [Bool.and_eq_true, decide_eq_true_eq, Bool.not_eq_true'] at h
  exact ⟨h.1.1, h.1.2, h.2⟩
theorem Fol.one {x : Srch} {d : List Nat} {t v : Nat} {l k : List Nat} (h : Fol x d t v l) (h2 : Fol x d t v k) : l = k := by
  induction h generalizing k with
  | here =>
    cases h2 with
    | here => rfl
    | step hne => exact absurd rfl hne
  | @step v i l hne hi hfi hb hl hfol ih =>
    cases h2 with
    | here => exact absurd rfl hne
    | @step _ j l2 _ hj hfj hb2 hl2 hfol2 =>
      have e : i = j := by
        rcases Nat.lt_trichotomy i j with h | h | h
        · rw [hl2 i h hfi] at hb; cases hb
        · exact h
        · rw [hl j h hfj] at hb2; cases hb2
      subst e
      rw [ih hfol2]
theorem Fol.down {x : Srch} {d : List Nat} {t v : Nat} {l : List Nat} (hn : Near x d t) (h : Fol x d t v l) (hv : v < x.N) : (v :: l.map (tN x.E)).Pairwise (fun a b => gn d b < gn d a) ∧ ∀ u, u ∈ v :: l.map (tN x.E) → u < x.N := by
  induction h with
  | here => exact ⟨by simp, fun u hu => by rw [List.mem_singleton.1 hu]; exact hv⟩
  | @step v i l hne hi hfi hb hl hfol ih =>
    obtain ⟨h1, h2⟩ := ih (hn.ends i hi).2
    have hlt : gn d (tN x.E i) < gn d v := by
      have h3 := (nearB_yes hb).2.1
      have h4 := hn.low i hi
      omega
    refine ⟨?_, fun u hu => ?_⟩
    · rw [List.map_cons]
      refine List.Pairwise.cons (fun u hu => ?_) h1
      rcases List.mem_cons.1 hu with e | e
      · rw [e]; exact hlt
      · exact Nat.lt_trans ((List.pairwise_cons.1 h1).1 u e) hlt
    · rw [List.map_cons] at hu
      rcases List.mem_cons.1 hu with e | e
      · rw [e]; exact hv
      · exact h2 u e
theorem Fol.nodup {x : Srch} {d : List Nat} {t v : Nat} {l : List Nat} (hn : Near x d t) (h : Fol x d t v l) (hv : v < x.N) : (v :: l.map (tN x.E)).Nodup :=
  (h.down hn hv).1.imp fun {a b} hab e => by rw [e] at hab; exact Nat.lt_irrefl _ hab
theorem Fol.edges {x : Srch} {d : List Nat} {t v : Nat} {l : List Nat} (h : Fol x d t v l) : ∀ i ∈ l, i < x.E.length := by
  induction h with
  | here => intro i hi; cases hi
  | step hne hi hfi hb hl hfol ih =>
    intro j hj
    rcases List.mem_cons.1 hj with e | e
    · rw [e]; exact hi
    · exact ih j e
theorem Fol.next {x : Srch} {d : List Nat} {t v : Nat} {l : List Nat} (h : Fol x d t v l) (hne : v ≠ t) : ∃ i l', l = i :: l' ∧ i < x.E.length ∧ fN x.E i = v ∧ nearB x d v i = true ∧ (∀ j, j < i → fN x.E j = v → nearB x d v j = false) ∧ Fol x d t (tN x.E i) l' := by
  cases h with
  | here => exact absurd rfl hne
  | step h1 h2 h3 h4 h5 h6 => exact ⟨_, _, rfl, h2, h3, h4, h5, h6⟩
theorem Fol.end_ {x : Srch} {d : List Nat} {t : Nat} {l : List Nat} (h : Fol x d t t l) : l = [] := h.one .here
theorem Near.pos {x : Srch} {d : List Nat} {t v : Nat} (h : Near x d t) (hv : v < x.N) (hne : v ≠ t) : 0 < gn d v := by
  rcases Nat.lt_or_ge (gn d v) farV with hf | hf
  · obtain ⟨i, hi, _, hb⟩ := h.by_ v hv hne hf
    have h1 := (nearB_yes hb).2.1
    have h2 := h.low i hi
    omega
  · unfold farV at hf; omega
theorem Near.same {x : Srch} {d : List Nat} {t v i : Nat} (h : Near x d t) (hi : i < x.E.length) (hfi : fN x.E i = v) (hv : gn d v < farV) :
    (cnt2 x i && decide (gn d (tN x.E i) < farV) && decide (gn x.W i + gn d (tN x.E i) = gn d v)) = nearB x d v i := by
  unfold nearB cnt2
  have hfN := (h.ends i hi).1
  have htN := (h.ends i hi).2
  have c1 := h.clean (fN x.E i) hfN (by rw [hfi]; exact hv)
  rw [c1]
  by_cases hf : gn d (tN x.E i) < farV
  · rw [h.clean _ htN hf, decide_eq_true hf, Nat.add_comm]
    cases x.ne i <;> simp
  · rw [decide_eq_false hf]
    simp
theorem Near.of {x : Srch} {t mw : Nat} {xs : List (Nat × Nat)} (h : Far x t mw xs) (hx : SrchIn x mw) (hb : x.N * mw < farV) (hm : x.most = 0) (hk : x.back = true) (ends : ∀ i, i < x.E.length → fN x.E i < x.N ∧ tN x.E i < x.N) (ht : t < x.N) (hnt : x.nn t = false) : Near x (outL x.N xs) t := by
  have e1 : ∀ i, nN x.E x.back i = tN x.E i := fun i => by rw [hk]; rfl
  have e2 : ∀ i, toE x i = fN x.E i := fun i => by unfold toE; rw [hk]; rfl
  refine ⟨ends, hx.low, h.begin_ ht, fun v hv hvs hf => ?_, fun i hi hc hf => ?_, fun v hv hf => ?_⟩
  · rcases outL_cases h hb hv with ⟨h1, _⟩ | ⟨h1, _⟩
    · obtain ⟨f, hfe⟩ : ∃ f, gn (outL x.N xs) v = f := ⟨_, rfl⟩
      rw [hfe] at h1 hf
      have hw := (h.way _ _ h1).2.1
      cases hw with
      | here => exact absurd rfl hvs
      | @step f' i hw hi hc =>
        obtain ⟨g, hg, hle⟩ := h.all _ _ hw (fun h => by omega)
        have hwg := (h.way _ _ hg).2.1
        obtain ⟨g2, hg2, hle2⟩ := h.all _ _ (hwg.step hi hc) (fun h => by omega)
        have e := h.one hg2 h1
        have e3 := outL_at h.nodup (v := nN x.E x.back i) (by rw [e1]; exact (ends i hi).2) hg
        refine ⟨i, hi, (e2 i).symm, ?_⟩
        rw [e1] at e3
        unfold nearB
        unfold cntE at hc
        simp only [Bool.and_eq_true, Bool.not_eq_true'] at hc
        rw [e3, hc.1, hfe, decide_eq_true (show g < farV by omega), decide_eq_true (show g + gn x.W i = f' + gn x.W i by omega)]
        rfl
    · omega
  · have := h.edge hb hm (i := i) (by rw [e1]; exact (ends i hi).2) (by rw [e2]; exact (ends i hi).1) hi hc (by rw [e1]; exact hf)
    rw [e1, e2] at this
    exact this
  · rcases outL_cases h hb hv with ⟨h1, _⟩ | ⟨h1, _⟩
    · exact (h.way _ _ h1).2.1.clean hnt
    · omega
end Go.Proofs.Ytgplpgldhoelcaa

namespace Go.Proofs.Ytgplpgldhoelcaa
open Go Go.RowKit
attribute [local go_sem] Oper.semAt_some
end Go.Proofs.Ytgplpgldhoelcaa

namespace Go.Proofs.Ytgplpgldhoelcaa
open Go Go.RowKit
attribute [local go_sem] Oper.semAt_some
section
variable {F : Fence} {m : Nat} {w : World} {e : TypeId} {ops : Array Oper} {rest : List Oper} {o : Oper} {a : Act} {Q : Exit → Act → World → Prop}
end
end Go.Proofs.Ytgplpgldhoelcaa

namespace Go.Proofs.Ytgplpgldhoelcaa
open Go Go.RowKit
attribute [local go_sem] Oper.semAt_some
theorem run_store_fn {P : Program} {w : World} {a : Addr} {m : Mode} (fn : Fn) (first captured : Array Value) : (store a (.func fn first captured) m).run P w = stored P w a (.func fn first captured) m := run_store P w a _ m rfl
attribute [local go_sem] run_store_fn
section
variable {P : Program} {a : Act} {w : World} {Q : Exit → Act → World → Prop}
theorem wp_scope_m {c rest : Code} (l : Nat) (J : Nat → Act → World → Prop) (hf : findLabel c l = some (Code.skip.seq rest))
    (pass : ∀ m a w, J m a w → rest.wp P (Exit.jump l (fun a' w' => ∃ m', m' < m ∧ J m' a' w') Q) a w)
    (first : (∀ m a w, J m a w → rest.wp P (Exit.jump l (fun a w => ∃ m, J m a w) Q) a w) → c.wp P (Exit.jump l (fun a w => ∃ m, J m a w) Q) a w) : (Code.scope c).wp P Q a w := by
  obtain ⟨μ, hμ⟩ := least_fn J
  refine wp_scope_jumps l (fun a w => ∃ m, J m a w) μ hf (first fun m a w h => ?_) fun a w h => wp_seq (wp_skip ?_)
  · refine wp_mono (pass m a w h) fun e a' w' hq => ?_
    cases e <;> first | exact hq | skip
    obtain ⟨rfl, m', h1, h2⟩ := hq
    exact ⟨rfl, m', h2⟩
  · refine wp_mono (pass _ a w (hμ a w h).1) fun e a' w' hq => ?_
    cases e <;> first | exact hq | skip
    obtain ⟨rfl, m', h1, h2⟩ := hq
    exact ⟨rfl, ⟨m', h2⟩, Nat.lt_of_le_of_lt ((hμ a' w' ⟨m', h2⟩).2 m' h2) h1⟩
end
def FolS (w : World) (lo b6 b7 b8 b9 b10 b11 : Nat) (x7 x8 x11 : Value) (l9 : List Value) (f v : Nat) (A : Option Addr) (c : Nat) (pre : List Nat) (W : World) : Prop :=
  (∃ y : Later w, W = y.now) ∧ (Arr W b6 3 [.int .i64 (v : Int)] ∧ Arr W b7 76 [x7] ∧ Arr W b8 76 [x8] ∧ Arr W b9 78 l9 ∧ Arr W b10 73 [.slice A pre.length c, .int .u64 (f : Int)] ∧ Arr W b11 176 [x11]) ∧ Own W lo 3 1 A pre.length c (nv pre) ∧ lo ≤ W.heap.size
def FolB (w : World) (lo b6 b7 b8 b9 b10 b11 : Nat) : Prop := w.heap.size ≤ b6 ∧ b6 < b7 ∧ b7 < b8 ∧ b8 < b9 ∧ b9 < b10 ∧ b10 < b11 ∧ b11 < lo
theorem FolS.touch {w W W' : World} {lo b6 b7 b8 b9 b10 b11 : Nat} {x7 x8 x11 : Value} {l9 : List Value} {f v : Nat} {A : Option Addr} {c : Nat} {pre : List Nat} {S : Nat → Prop} (hb : FolB w lo b6 b7 b8 b9 b10 b11)
    (h : FolS w lo b6 b7 b8 b9 b10 b11 x7 x8 x11 l9 f v A c pre W) (ht : Touch S W W') (hS : ∀ k, S k → lo ≤ k) (hA : ∀ q, A = some q → ¬ S q.block) : FolS w lo b6 b7 b8 b9 b10 b11 x7 x8 x11 l9 f v A c pre W' := by
  obtain ⟨⟨y, rfl⟩, ⟨a6, a7, a8, a9, a10, a11⟩, ho, hl⟩ := h
  obtain ⟨h0, h1, h2, h3, h4, h5, h6⟩ := hb
  have nb : ∀ k, k < lo → ¬ S k := fun k hk e => by have := hS _ e; omega
  exact ⟨⟨⟨W', ht.later y.grows (fun k hk => by have := hS k hk; omega)⟩, rfl⟩, ⟨a6.touch ht (nb _ (by omega)), a7.touch ht (nb _ (by omega)), a8.touch ht (nb _ (by omega)), a9.touch ht (nb _ (by omega)), a10.touch ht (nb _ (by omega)), a11.touch ht (nb _ (by omega))⟩, ho.touch ht hA, Nat.le_trans hl ht.size⟩
end Go.Proofs.Ytgplpgldhoelcaa

namespace Go.Proofs.Ytgplpgldhoelcaa
open Go Go.RowKit
attribute [local go_sem] Oper.semAt_some
section
variable {w : World} {e : TypeId} {ops : Array Oper} {rest : List Oper} {o : Oper} {a : Act} {Q : Exit → Act → World → Prop}
theorem wp_appT1 {t : TypeId} (E : Elem t e 1) (hgd : o.guard = none) (s x : Operand) (ho : o.op = .call { callee := .builtin .append, args := #[s, x], argTypes := #[t, t] })
    (lo : Nat) (hlo : lo ≤ w.heap.size) (n c : Nat) (A : Option Addr) (xs : List Value) (hs : a.eval s = .slice A n c) (hown : Own w lo e 1 A n c xs) (g c' : Nat) (v : Value) (hx : a.eval x = .slice (some ⟨g, 0, none⟩) 1 c')
    (hv : Holds w ⟨g, 0, none⟩ v) (h1 : v.oneCell' = true) (hnm : n + 1 ≤ 1000000000000)
    (h : ∀ A' c'' w', Own w' lo e 1 A' (n + 1) c'' (xs ++ [v]) → Touch (RowB A) w w' → (∀ p, A' = some p → (∃ q, A = some q ∧ q.block = p.block) ∨ New w w' p.block) → wpList Try.prog ops Q rest (a.put o.dst (.slice A' (n + 1) c'')) w') :
    wpList Try.prog ops Q (o :: rest) a w := by
  obtain ⟨i, z, bytes, hi, hz, hsz, hby, hzs, hb64⟩ := E.info
  refine wpList_append_own_at w hgd s x t ho lo e i z 1 bytes E.under hi hz hsz hby hzs E.pos (.slice A n c) n xs hs hown ⟨g, 0, none⟩ 1 c' [v] hx rfl (fun j u hu => by
    have hj : j = 0 := by
      have := (List.getElem?_eq_some_iff.1 hu).1
      simpa using this
    subst hj
    simp at hu
    subst hu
    simpa [Addr.add] using hv.cell) (by intro u hu; simp at hu; rw [hu]; exact h1) (by unfold maxLen; omega) (Nat.le_trans (Nat.mul_le_mul hnm hb64) (by omega)) hlo ?_
  intro v' w' hown' hgr _ hat
  obtain ⟨A', c'', rfl⟩ := own_form hown'
  have ht : Touch (RowB A) w w' := (Touch.refl _ w).grown hgr fun k hk => .inl (by
    cases A with
    | none => simp [Value.ownBlock] at hk
    | some p => simp [Value.ownBlock] at hk; exact ⟨p, rfl, hk⟩)
  have hloc : ∀ p, A' = some p → (∃ q, A = some q ∧ q.block = p.block) ∨ New w w' p.block := fun p hp => by
    have hlt := (hown'.lt p.block (by subst hp; rfl)).2
    subst hp
    simp only [Value.ownBlock] at hat
    rcases hat with hat | hat
    · left
      cases A with
      | none => simp at hat
      | some q => exact ⟨q, rfl, by simpa using hat.symm⟩
    · right
      have e9 : p.block = w.heap.size := by simpa using hat
      exact ⟨Nat.le_of_eq e9.symm, hlt⟩
  exact h A' c'' w' hown' ht hloc
end
structure OrdX (w : World) (S SH SC : Nat → Prop) (bh : Nat) (P : CorePl) (s : HS) (c : Ctr) (A : Option Addr) (cc : Nat) (out : List Nat) (W : World) : Prop where
  touch : Touch S w W
  heap : HpAt W SH bh s
  core : CoreAt W SC P c
  apart : ∀ k, SH k → ¬ SC k
  hin : ∀ k, SH k → w.heap.size ≤ k ∧ k < W.heap.size
  cin : ∀ k, SC k → (S k ∨ w.heap.size ≤ k) ∧ k < W.heap.size
  row : Own W w.heap.size 3 1 A out.length cc (nv out)
  rin : ∀ p, A = some p → ¬ SH p.block ∧ ¬ SC p.block ∧ w.heap.size ≤ p.block ∧ p.block < W.heap.size
section
variable {w : World} {S SH SC SH' SC' : Nat → Prop} {bh : Nat} {P : CorePl} {s s' : HS} {c c' : Ctr} {A A' : Option Addr} {cc cc' : Nat} {out out' : List Nat} {W W' : World}
theorem OrdX.heaped (h : OrdX w S SH SC bh P s c A cc out W) (hp : HpAt W' SH' bh s') (ht : Touch SH W W') (hs : ∀ k, SH' k → SH k ∨ New W W' k) : OrdX w S SH' SC bh P s' c A cc out W' := by
  have hz := ht.size
  have h0 := h.touch.size
  refine ⟨h.touch.trans2 ht (fun k hk => .inr (h.hin k hk).1), hp, h.core.touch ht (fun k hk e => h.apart k e hk), fun k hk e => ?_, fun k hk => ?_, fun k hk => ⟨(h.cin k hk).1, Nat.lt_of_lt_of_le (h.cin k hk).2 hz⟩, h.row.touch ht (fun p hp => (h.rin p hp).1), fun p hp => ⟨fun e => ?_, (h.rin p hp).2.1, (h.rin p hp).2.2.1, Nat.lt_of_lt_of_le (h.rin p hp).2.2.2 hz⟩⟩
  · rcases hs k hk with h1 | h1
    · exact h.apart k h1 e
    · have := (h.cin k e).2; have := h1.1; omega
  · rcases hs k hk with h1 | h1
    · exact ⟨(h.hin k h1).1, Nat.lt_of_lt_of_le (h.hin k h1).2 hz⟩
    · exact ⟨Nat.le_trans h0 h1.1, h1.2⟩
  · rcases hs _ e with h1 | h1
    · exact (h.rin p hp).1 h1
    · have := (h.rin p hp).2.2.2; have := h1.1; omega
theorem OrdX.cored (h : OrdX w S SH SC bh P s c A cc out W) (hp : CoreAt W' SC' P c') (ht : Touch SC W W') (hs : ∀ k, SC' k → SC k ∨ New W W' k) : OrdX w S SH SC' bh P s c' A cc out W' := by
  have hz := ht.size
  have h0 := h.touch.size
  refine ⟨h.touch.trans2 ht (fun k hk => (h.cin k hk).1), h.heap.touch ht (fun k hk e => h.apart k hk e), hp, fun k hk e => ?_, fun k hk => ⟨(h.hin k hk).1, Nat.lt_of_lt_of_le (h.hin k hk).2 hz⟩, fun k hk => ?_, h.row.touch ht (fun p hp => (h.rin p hp).2.1), fun p hp => ⟨(h.rin p hp).1, fun e => ?_, (h.rin p hp).2.2.1, Nat.lt_of_lt_of_le (h.rin p hp).2.2.2 hz⟩⟩
  · rcases hs k e with h1 | h1
    · exact h.apart k hk h1
    · have := (h.hin k hk).2; have := h1.1; omega
  · rcases hs k hk with h1 | h1
    · exact ⟨(h.cin k h1).1, Nat.lt_of_lt_of_le (h.cin k h1).2 hz⟩
    · exact ⟨.inr (Nat.le_trans h0 h1.1), h1.2⟩
  · rcases hs _ e with h1 | h1
    · exact (h.rin p hp).2.1 h1
    · have := (h.rin p hp).2.2.2; have := h1.1; omega
theorem OrdX.rowed (h : OrdX w S SH SC bh P s c A cc out W) (hp : Own W' w.heap.size 3 1 A' out'.length cc' (nv out')) (ht : Touch (RowB A) W W') (hs : ∀ p, A' = some p → (∃ q, A = some q ∧ q.block = p.block) ∨ New W W' p.block) : OrdX w S SH SC bh P s c A' cc' out' W' := by
  have hz := ht.size
  have h0 := h.touch.size
  refine ⟨h.touch.trans2 ht (fun k ⟨p, hp, e⟩ => .inr (by rw [← e]; exact (h.rin p hp).2.2.1)), h.heap.touch ht (fun k hk ⟨p, hp, e⟩ => (h.rin p hp).1 (by rw [e]; exact hk)), h.core.touch ht (fun k hk ⟨p, hp, e⟩ => (h.rin p hp).2.1 (by rw [e]; exact hk)), h.apart, fun k hk => ⟨(h.hin k hk).1, Nat.lt_of_lt_of_le (h.hin k hk).2 hz⟩, fun k hk => ⟨(h.cin k hk).1, Nat.lt_of_lt_of_le (h.cin k hk).2 hz⟩, hp, fun p hp => ?_⟩
  rcases hs p hp with ⟨q, hq, e⟩ | h1
  · have := h.rin q hq
    rw [e] at this
    exact ⟨this.1, this.2.1, this.2.2.1, Nat.lt_of_lt_of_le this.2.2.2 hz⟩
  · exact ⟨fun e => by have := (h.hin _ e).2; have := h1.1; omega, fun e => by have := (h.cin _ e).2; have := h1.1; omega, Nat.le_trans h0 h1.1, h1.2⟩
theorem OrdX.grow (h : OrdX w S SH SC bh P s c A cc out W) (hg : Grows W W') : OrdX w S SH SC bh P s c A cc out W' :=
  h.rowed (h.row.touch (hg.touch (fun _ => False)) (fun _ _ => id)) (hg.touch _) (fun p hp => .inl ⟨p, hp, rfl⟩)
end
def OrdE (w : World) (S : Nat → Prop) (bh : Nat) (P : CorePl) (s : HS) (c : Ctr) (A : Option Addr) (cc : Nat) (out : List Nat) (W : World) : Prop := ∃ SH SC, OrdX w S SH SC bh P s c A cc out W
def CtAll (N hops settles : Nat) (c0 : Ctr) : Prop := ∀ out : List Nat, out.Nodup → (∀ v ∈ out, v < N) → CtN N (Ctr.goAll hops settles out c0) ∧ CtB 1152921504606846976 80000 900000000 1000000 (Ctr.goAll hops settles out c0)
def FrameOrdN (pa sl ph : Value) (a' : Act) : Prop := ∃ u1 u4 u5 u6 u7 u8 u9 u10 u11 u12 u13 u14 u15 u16 u17 u18 u19 u20 u21 u22 u23 u24 u25 u26 u27 u28 u29 u30 u31 u32 u33 u34 u35 u36 u37 u38 u39 u40 u41 u42 u43 u44 u45 u46 u47 u48 u49 u50 u51 u52 u53 u54 u55 u56 u57 u58 u59 u60 u61 u62 u63 u64 u65 u66 u67 u68 u69 : Value, a' = { tmps := (pa :: u1 :: sl :: ph :: u4 :: u5 :: u6 :: u7 :: u8 :: u9 :: u10 :: u11 :: u12 :: u13 :: u14 :: u15 :: u16 :: u17 :: u18 :: u19 :: u20 :: u21 :: u22 :: u23 :: u24 :: u25 :: u26 :: u27 :: u28 :: u29 :: u30 :: u31 :: u32 :: u33 :: u34 :: u35 :: u36 :: u37 :: u38 :: u39 :: u40 :: u41 :: u42 :: u43 :: u44 :: u45 :: u46 :: u47 :: u48 :: u49 :: u50 :: u51 :: u52 :: u53 :: u54 :: u55 :: u56 :: u57 :: u58 :: u59 :: u60 :: u61 :: u62 :: u63 :: u64 :: u65 :: u66 :: u67 :: u68 :: u69 :: []).toArray, defers := [] }
structure HpK (N k : Nat) (s : HS) : Prop where
  lk : s.Lk N
  or : s.Or
  mem : ∀ v, v < N → ((∃ key, s.Mem (v, key)) ↔ v < k)
theorem HpK.start {N : Nat} {T : List Int} (h1 : T.length = N) (h2 : ∀ j, j < N → gz T j = -1) : HpK N 0 ⟨[], T⟩ :=
  ⟨⟨h1, fun i hi => absurd hi (by simp), fun v hv => .inl (h2 v hv)⟩, fun j _ hj => absurd hj (by simp), fun v _ => ⟨fun ⟨k, i, hi, _⟩ => absurd hi (by simp), fun h => absurd h (by omega)⟩⟩
theorem HpK.next {N k f : Nat} {s : HS} (h : HpK N k s) (hk : k < N) : HpK N (k + 1) (s.put k f).1 := by
  obtain ⟨h1, h2, h3⟩ := HS.put_ok (v := k) (f := f) h.lk h.or hk (fun key hm => absurd ((h.mem k hk).1 ⟨key, hm⟩) (by omega))
  refine ⟨h1, h2, fun v hv => ?_⟩
  constructor
  · rintro ⟨key, hm⟩
    rcases (h3 _).1 hm with ⟨h4, _⟩ | h4
    · have := (h.mem v hv).1 ⟨key, h4⟩; omega
    · injection h4 with h4 _; omega
  · intro hlt
    by_cases e : v = k
    · exact ⟨f, (h3 _).2 (.inr (by rw [e]))⟩
    · obtain ⟨key, hm⟩ := (h.mem v hv).2 (by omega)
      exact ⟨key, (h3 _).2 (.inl ⟨hm, e⟩)⟩
theorem HpK.ord {N : Nat} {s : HS} (h : HpK N N s) : OrdN N [] s := ⟨h.lk, h.or, List.nodup_nil, fun v hv => absurd hv (by simp), fun v hv _ => (h.mem v hv).2 hv, fun v k hm => by simp⟩
theorem HS.Lk.put_pre {s : HS} {N v : Nat} (h : s.Lk N) (hv : v < N) : gz s.T v = -1 ∨ 0 ≤ gz s.T v ∧ gz s.T v < s.L.length := by
  rcases h.no v hv with e | ⟨i, hi, h1, h2⟩
  · exact .inl e
  · exact .inr (by omega)
theorem ord_less {N o st st' : Nat} (h : o < N) (h2 : st' ≤ N) : (N - (o + 1)) * (N + 1) + st' < (N - o) * (N + 1) + st := by
  obtain ⟨d, hd⟩ : ∃ d, N - o = d + 1 := ⟨N - o - 1, by omega⟩
  rw [show N - (o + 1) = d by omega, hd, Nat.succ_mul]
  omega
def OrdJ (w : World) (S : Nat → Prop) (P : CorePl) (c0 : Ctr) (m : Nat) (a' : Act) (W : World) : Prop :=
  ∃ bh s A cc out, m = (P.N - out.length) * (P.N + 1) + stale (keyN P.hops P.settles (Ctr.goAll P.hops P.settles out c0)) s P.N ∧ OrdN P.N out s ∧ FrameOrdN (.pointer (some ⟨P.b, 0, none⟩)) (.slice A out.length cc) (.pointer (some ⟨bh, 0, none⟩)) a' ∧ OrdE w S bh P s (Ctr.goAll P.hops P.settles out c0) A cc out W
def GiveOrd (w : World) (S : Nat → Prop) (P : CorePl) (c0 : Ctr) (e : Ending) (w' : World) : Prop :=
  ∃ A cc out, e = .returned (.slice A P.N cc) ∧ out.Nodup ∧ out.length = P.N ∧ (∀ v ∈ out, v < P.N) ∧ Own w' w.heap.size 3 1 A P.N cc (nv out) ∧ CoreAt w' (fun k => S k ∨ New w w' k) P (Ctr.goAll P.hops P.settles out c0) ∧ Touch S w w'
set_option maxRecDepth 40000 in
set_option maxHeartbeats 16000000 in
theorem coOrder (P : CorePl) (c0 : Ctr) (S : Nat → Prop) (w : World) (h : CoreAt w S P c0) (hs : ∀ k, S k → k < w.heap.size) (hall : CtAll P.N P.hops P.settles c0) (hN : P.N ≤ 100) (hh : P.hops ≤ 1000) (hst : P.settles ≤ 1000) :
    Calls Try.prog 73 #[.pointer (some ⟨P.b, 0, none⟩)] w (GiveOrd w S P c0) := by
  have CN := hide (fun (W : World) => hpNew P.N W (by omega))
  have HC0 := hide h
  have HS := hide hs
  have HALL := hide hall
  have HKEY := hide (fun (c : Ctr) (SC : Nat → Prop) (v : Nat) (W : World) (hc : CoreAt W SC P c) (hn : CtN P.N c) (hb : CtB 1152921504606846976 80000 900000000 1000000 c) (hv : v < P.N) => by
    obtain ⟨R, hX, _⟩ := hc
    exact coKey P R c _ _ v _ W hX hn hv hN hb.w hb.row (hb.deep v) hh hst)
  have HCON := hide (fun (c : Ctr) (SC : Nat → Prop) (v : Nat) (W : World) (hc : CoreAt W SC P c) (hsc : ∀ k, SC k → k < W.heap.size) (hn : CtN P.N c) (hb : CtB 1152921504606846976 80000 900000000 1000000 c) (hv : v < P.N) => coContract P c v 80000 SC W hc hsc hn hv hN hb.w hb.row (by omega) hb.len (hb.deep v) hh hst)
  obtain ⟨R, hX, _⟩ := id h
  have hcore := hX.core
  unfold CorePl.cells at hcore
  clear h hs hall hh hst hX
  obtain ⟨K1, hK1⟩ : ∃ K1, K1 = OrdJ w S P c0 := ⟨_, rfl⟩
  go_enter Try.func73, Try.ntmps73
  go_wp2_with fail
  refine wp_scope_m 0 K1 rfl ?pass ?first
  case first =>
    intro hpass
    go_wp2_with (go_at_call 113; refine (CN.out _).mono ?_; rintro e w' ⟨bh, T, rfl, hp, htl, htn, hbl, hg⟩; obtain ⟨x1, rfl⟩ := hg.later; have HP := hide hp; have HT := hide (And.intro htl htn); clear hp htl htn hg)
    have hX0 : OrdE w S bh P ⟨[], T⟩ c0 none 0 [] x1.now := ⟨_, _, (x1.grows.touch S), HP.out, HC0.out.touch (x1.grows.touch (fun _ => False)) (fun _ _ => id), fun k hk e => by have := HS.out k e; have := hk.1; omega, fun k hk => hk, fun k hk => ⟨.inl hk, Nat.lt_of_lt_of_le (HS.out k hk) x1.size⟩, Own.nil _ _ _ _, fun p hp => by cases hp⟩
    have HX0 := hide hX0
    have HK0 := hide (HpK.start HT.out.1 HT.out.2)
    clear hX0 HP CN
    go_loopw [25] (fun i wr => ∃ k : Nat, k ≤ P.N ∧ i = .int .i64 (k : Int) ∧ ∃ s, Hid (HpK P.N k s) ∧ OrdE w S bh P s c0 none 0 [] wr) (fun i _ => P.N - (Go.RowKit.intOf i).toNat)
    case atStart => exact ⟨0, by omega, by go_num, _, HK0, HX0.out⟩
    case round =>
      obtain ⟨k, hk, rfl, s, HK, hrow⟩ := hrel
      have HROW := hide hrow
      clear hrow HX0 HK0 HT
      by_cases hlt : k < P.N
      · obtain ⟨SH, SC, hX⟩ := HROW.out
        obtain ⟨a1, a2⟩ := HALL.out [] List.nodup_nil (fun v hv => absurd hv (by simp))
        have CKEY := hide (HKEY.out c0 SC k wr hX.core a1 a2 hlt)
        have CPUT := hide (fun (key : Nat) (W : World) (g : Grows wr W) => hpPut bh P.N s k key SH W (hX.heap.grow g) (fun j hj => Nat.lt_of_lt_of_le (hX.hin j hj).2 g.size) HK.out.lk.isIn hlt (HK.out.lk.put_pre hlt) (Nat.le_trans HK.out.lk.small (by omega)))
        have HX := hide hX
        clear hX a1 a2
        unfold GivePut at CPUT
        go_wp2_with (first | (go_at_call 115; refine (CKEY.out).mono ?_; rintro e w' ⟨rfl, hg⟩; obtain ⟨y, rfl⟩ := hg.later; clear hg) | (go_at_call 114; refine (CPUT.out _ _ y.grows).mono ?_; rintro e w' ⟨rfl, hp, ht⟩; have HP2 := hide hp; have HT2 := hide ht; clear hp ht))
        go_roundw
        case measure => simp [Go.RowKit.intOf]; omega
        case rel => exact ⟨k + 1, by omega, by go_num, _, HK.out.next hlt, _, _, (HX.out.grow y.grows).heaped HP2.out HT2.out (fun k hk => hk)⟩
      · obtain rfl : k = P.N := by omega
        go_wp2_with fail
        go_step3
        rename_i K hK
        refine hK _ _ (hpass ((P.N - ([] : List Nat).length) * (P.N + 1) + stale (keyN P.hops P.settles (Ctr.goAll P.hops P.settles [] c0)) s P.N) _ _ ?_)
        rw [hK1]
        refine ⟨bh, s, none, 0, [], rfl, HK.out.ord, ?_, HROW.out⟩
        unfold FrameOrdN
        (repeat apply Exists.intro)
        rfl
  case pass =>
    subst hK1
    rintro m a W ⟨bh, s, A, cc, out, hm, hord, ⟨u1, u4, u5, u6, u7, u8, u9, u10, u11, u12, u13, u14, u15, u16, u17, u18, u19, u20, u21, u22, u23, u24, u25, u26, u27, u28, u29, u30, u31, u32, u33, u34, u35, u36, u37, u38, u39, u40, u41, u42, u43, u44, u45, u46, u47, u48, u49, u50, u51, u52, u53, u54, u55, u56, u57, u58, u59, u60, u61, u62, u63, u64, u65, u66, u67, u68, u69, rfl⟩, SH, SC, hX⟩
    obtain ⟨a1, a2⟩ := HALL.out out hord.nodup hord.lt
    have hXc := hX.core
    have HM := hide hm
    have HO := hide hord
    have HX := hide hX
    have hol := hord.len
    clear hm hord hcore
    by_cases h0 : s.L.length = 0
    · have CPOP := hide (hpPopNo bh s SH W hX.heap h0)
      have HE := hide (HO.out.all h0)
      clear hX hXc a1 a2 h0
      go_wp2_with (go_at_call 116; refine (CPOP.out).mono ?_; rintro e w' ⟨rfl, hg⟩; obtain ⟨y, rfl⟩ := hg.later; clear hg)
      simp only [Exit.jump]
      go_ret
      have hXy := HX.out.grow y.grows
      have hlen : out.length = P.N := by
        have h2 := (List.nodup_range (n := P.N)).length_le_of_subset (fun v hv => HE.out v (List.mem_range.1 hv))
        simp at h2
        omega
      obtain ⟨RR, hR, hSR⟩ := hXy.core
      exact ⟨A, cc, out, by simp [hlen], HO.out.nodup, hlen, HO.out.lt, by have := hXy.row; rwa [hlen] at this, ⟨RR, hR, fun k hk => (hXy.cin k (hSR k hk)).1.imp id (fun h => ⟨h, (hXy.cin k (hSR k hk)).2⟩)⟩, hXy.touch⟩
    · have h1 : 0 < s.L.length := by omega
      clear h0
      obtain ⟨t1, t2, t3⟩ := HO.out.top h1
      have CPOP := hide (hpPop bh P.N s SH 0 W hX.heap (fun k hk => (hX.hin k hk).2) HO.out.lk.isIn h1 t3 h1 (Nat.le_trans HO.out.lk.small (by omega)))
      have HTAKE := hide (HO.out.take h1)
      have HAG := hide (HO.out.again (keyN P.hops P.settles (Ctr.goAll P.hops P.settles out c0)) h1)
      have CKEY := hide (fun (W2 : World) (hc : CoreAt W2 SC P (Ctr.goAll P.hops P.settles out c0)) => HKEY.out _ SC (gi2 s.L 0).1 W2 hc a1 a2 t1)
      have CCON := hide (fun (W2 : World) (hc : CoreAt W2 SC P (Ctr.goAll P.hops P.settles out c0)) (hsc : ∀ k, SC k → k < W2.heap.size) => HCON.out _ SC (gi2 s.L 0).1 W2 hc hsc a1 a2 t1)
      unfold GivePop at CPOP
      clear hX hXc a1 a2 t2 t3
      generalize (gi2 s.L 0).1 = v at *
      generalize (gi2 s.L 0).2 = k0 at *
      go_wp2_with (first | (go_at_call 116; refine (CPOP.out).mono ?_; rintro e w1 ⟨rfl, hp, ht⟩; have HX1 := hide (HX.out.heaped hp ht (fun k hk => .inl hk)); clear hp ht) | (go_at_call 115; refine (CKEY.out _ HX1.out.core).mono ?_; rintro e w' ⟨rfl, hg⟩; obtain ⟨y, rfl⟩ := hg.later; clear hg; have HX2 := hide (HX1.out.grow y.grows)))
      obtain ⟨kk, hkk⟩ : ∃ kk, keyN P.hops P.settles (Ctr.goAll P.hops P.settles out c0) v = kk := ⟨_, rfl⟩
      rw [hkk] at HAG
      have HKK := hide hkk
      by_cases he : (s.drop v).L.length = 0
      · have CTOP := hide (hpTopNo bh (s.drop v) SH y.now HX2.out.heap he)
        clear he HAG
        rw [hkk]
        clear hkk
        go_upto_region 12 with (go_at_call 117; refine (CTOP.out).mono ?_; rintro e w' ⟨rfl, hg⟩; obtain ⟨y3, rfl⟩ := hg.later; clear hg; have HX3 := hide (HX2.out.grow y3.grows))
        go_wp2_with (first
          | (go_at_call 74; refine (CCON.out _ HX3.out.core (fun k hk => (HX3.out.cin k hk).2)).mono ?_; rintro e w4 ⟨rfl, hp, ht⟩; have HX4 := hide (HX3.out.cored hp ht (fun k hk => hk)); clear hp ht)
          | (at_builtin; refine wp_appT1 elemInt rfl _ _ rfl w.heap.size (by have := HX4.out.touch.size; simp; omega) out.length cc A _ rfl ((HX4.out.row.touch (((Grows.refl _).new _).touch (fun _ => False)) (fun _ _ => id))) _ _ _ rfl inferInstance rfl (by omega) ?_; intro A5 c5 w5 ho5 ht5 hn5; have HX5 := hide ((HX4.out.grow ((Grows.refl _).new _)).rowed (out' := out ++ [v]) (by rw [show nv (out ++ [v]) = nv out ++ [.int .i64 (v : Int)] by simp [nv], List.length_append, List.length_singleton]; exact ho5) ht5 hn5); clear ho5 ht5 hn5))
        go_step3
        refine ⟨rfl, (P.N - (out.length + 1)) * (P.N + 1) + stale (keyN P.hops P.settles (Ctr.goAll P.hops P.settles (out ++ [v]) c0)) (s.drop v) P.N, ?_, bh, s.drop v, A5, c5, out ++ [v], by rw [List.length_append, List.length_singleton], HTAKE.out.1, ?_, _, _, by rw [goAll_snoc]; exact HX5.out⟩
        · rw [HM.out]
          exact ord_less HTAKE.out.2 (stale_le _ _ _)
        · unfold FrameOrdN
          rw [show (out ++ [v]).length = out.length + 1 by simp]
          (repeat apply Exists.intro)
          rfl
      · have hd0 : 0 < (s.drop v).L.length := by omega
        have CTOP := hide (hpTop bh (s.drop v) SH y.now HX2.out.heap hd0)
        have HAG2 := hide (HAG.out hd0)
        clear he HAG hd0
        rw [hkk]
        clear hkk
        generalize (gi2 (s.drop v).L 0).2 = lk at *
        generalize (gi2 (s.drop v).L 0).1 = lv at *
        by_cases hlt : lk < kk
        · have HAG3 := hide (HAG2.out hlt)
          clear HAG2
          go_upto_region 12 with (go_at_call 117; refine (CTOP.out).mono ?_; rintro e w' ⟨rfl, hg⟩; obtain ⟨y3, rfl⟩ := hg.later; clear hg; have HX3 := hide (HX2.out.grow y3.grows))
          have CPUT := hide (hpPut bh P.N (s.drop v) v kk SH y3.now HX3.out.heap (fun j hj => (HX3.out.hin j hj).2) HTAKE.out.1.lk.isIn t1 (HTAKE.out.1.lk.put_pre t1) (Nat.le_trans HTAKE.out.1.lk.small (by omega)))
          unfold GivePut at CPUT
          go_wp2_with (go_at_call 114; refine (CPUT.out).mono ?_; rintro e w4 ⟨rfl, hp, ht⟩; have HX4 := hide (HX3.out.heaped hp ht (fun k hk => hk)); clear hp ht)
          go_step3
          refine ⟨rfl, (P.N - out.length) * (P.N + 1) + stale (keyN P.hops P.settles (Ctr.goAll P.hops P.settles out c0)) ((s.drop v).put v kk).1 P.N, ?_, bh, ((s.drop v).put v kk).1, A, cc, out, rfl, HAG3.out.1, ?_, _, _, HX4.out⟩
          · rw [HM.out]
            have := HAG3.out.2
            omega
          · unfold FrameOrdN
            (repeat apply Exists.intro)
            rfl
        · clear HAG2
          go_upto_region 12 with (go_at_call 117; refine (CTOP.out).mono ?_; rintro e w' ⟨rfl, hg⟩; obtain ⟨y3, rfl⟩ := hg.later; clear hg; have HX3 := hide (HX2.out.grow y3.grows))
          go_wp2_with (first
            | (go_at_call 74; refine (CCON.out _ HX3.out.core (fun k hk => (HX3.out.cin k hk).2)).mono ?_; rintro e w4 ⟨rfl, hp, ht⟩; have HX4 := hide (HX3.out.cored hp ht (fun k hk => hk)); clear hp ht)
            | (at_builtin; refine wp_appT1 elemInt rfl _ _ rfl w.heap.size (by have := HX4.out.touch.size; simp; omega) out.length cc A _ rfl ((HX4.out.row.touch (((Grows.refl _).new _).touch (fun _ => False)) (fun _ _ => id))) _ _ _ rfl inferInstance rfl (by omega) ?_; intro A5 c5 w5 ho5 ht5 hn5; have HX5 := hide ((HX4.out.grow ((Grows.refl _).new _)).rowed (out' := out ++ [v]) (by rw [show nv (out ++ [v]) = nv out ++ [.int .i64 (v : Int)] by simp [nv], List.length_append, List.length_singleton]; exact ho5) ht5 hn5); clear ho5 ht5 hn5))
          go_step3
          refine ⟨rfl, (P.N - (out.length + 1)) * (P.N + 1) + stale (keyN P.hops P.settles (Ctr.goAll P.hops P.settles (out ++ [v]) c0)) (s.drop v) P.N, ?_, bh, s.drop v, A5, c5, out ++ [v], by rw [List.length_append, List.length_singleton], HTAKE.out.1, ?_, _, _, by rw [goAll_snoc]; exact HX5.out⟩
          · rw [HM.out]
            exact ord_less HTAKE.out.2 (stale_le _ _ _)
          · unfold FrameOrdN
            rw [show (out ++ [v]).length = out.length + 1 by simp]
            (repeat apply Exists.intro)
            rfl
end Go.Proofs.Ytgplpgldhoelcaa

namespace Go.Proofs.Ytgplpgldhoelcaa
open Go Go.RowKit
def light20B (N : Int) (n : Nat) : Bool := lightG N n && (decide (N ≤ 12) || decide (4096 < N)) && decide (n ≤ 40)
set_option maxHeartbeats 1000000 in
theorem lLight20 (N : Int) (A : Option Addr) (n c : Nat) (w : World) : Calls Try.prog 10 #[.agg #[.int .i64 N, .slice A n c]] w fun e w' => e = .returned (.bool (light20B N n)) ∧ Grows w w' := by
  have CL := hide (fun (W : World) => lLight N A n c W)
  have HD : Hid (light20B N n = (lightG N n && (decide (N ≤ 12) || decide (4096 < N)) && decide (n ≤ 40))) := rfl
  generalize lightG N n = q at *
  generalize light20B N n = r at *
  go_enter Try.func10, Try.ntmps10
  go_wp2_with (go_at_call 24; refine (CL.out _).mono ?_; rintro e w' ⟨rfl, hg⟩; obtain ⟨x1, rfl⟩ := hg.later; clear hg)
  all_goals go_ret
  all_goals exact ⟨ret_bool (by rw [HD.out]; first | rfl | (apply bool_ext; simp [*]; try omega)), GG⟩
theorem run_makeBools (n : Nat) (hn : n ≤ 1000000000) (w : World) : (Instr.makeSlice 23 (.int .i64 (n : Int)) (.int .i64 (n : Int))).run Try.prog w = .ok (.slice (some ⟨w.heap.size, 0, none⟩) n n) (w.alloc (.cells (List.replicate n (Value.bool false)).toArray 4)) := by
  have h : (Try.prog.info? 4).map (fun i => (i.zero, i.size, i.bytes)) = some (some (.bool false), 1, 1) := by kernel_rfl
  obtain ⟨i, h1, h2, h3, h4⟩ := info_parts h
  have := run_make_row (P := Try.prog) 23 4 i (.bool false) Try.underlying23 h1 h2 h3 rfl .i64 .i64 n (by rw [h4]; omega) (by omega) w
  have e : madeCells #[Value.bool false] n = (List.replicate n (Value.bool false)).toArray := Array.ext' (by rw [toList_madeCells_one])
  rw [e] at this
  exact this
theorem coRight1 (n : Int) (w : World) : Calls Try.prog 81 #[.int .i64 n] w fun e w' => e = .returned (.bool (decide (1 ≤ n) && decide (n ≤ 1000))) ∧ w = w' := by
  go_enter Try.func81, Try.ntmps81
  go_wp2_with fail
  all_goals go_ret
  all_goals exact ⟨ret_bool (bool_ext (by simp_all; try omega)), rfl⟩
section
variable {w : World} {g : Nat} {t : TypeId}
instance Arr.q6 {v0 v1 v2 v3 v4 v5 v : Value} {l : List Value} [h : Arr w g t (v0 :: v1 :: v2 :: v3 :: v4 :: v5 :: v :: l)] : Mine w ⟨g, 6, none⟩ v := h.mine 6 rfl
instance Arr.q7 {v0 v1 v2 v3 v4 v5 v6 v : Value} {l : List Value} [h : Arr w g t (v0 :: v1 :: v2 :: v3 :: v4 :: v5 :: v6 :: v :: l)] : Mine w ⟨g, 7, none⟩ v := h.mine 7 rfl
instance Arr.q8 {v0 v1 v2 v3 v4 v5 v6 v7 v : Value} {l : List Value} [h : Arr w g t (v0 :: v1 :: v2 :: v3 :: v4 :: v5 :: v6 :: v7 :: v :: l)] : Mine w ⟨g, 8, none⟩ v := h.mine 8 rfl
instance Arr.q9 {v0 v1 v2 v3 v4 v5 v6 v7 v8 v : Value} {l : List Value} [h : Arr w g t (v0 :: v1 :: v2 :: v3 :: v4 :: v5 :: v6 :: v7 :: v8 :: v :: l)] : Mine w ⟨g, 9, none⟩ v := h.mine 9 rfl
end
end Go.Proofs.Ytgplpgldhoelcaa

namespace Go.Proofs.Ytgplpgldhoelcaa
open Go Go.RowKit
attribute [local go_sem] Oper.semAt_some
def coRB (hops settles : Int) (l : List Int) : Bool := decide (1 ≤ hops ∧ hops ≤ 1000 ∧ 1 ≤ settles ∧ settles ≤ 1000) && rkB l
set_option maxHeartbeats 1000000 in
theorem coRight (hops settles : Int) (A : Option Addr) (n c : Nat) (l : List Int) (w : World) (h : Rd w A 1 n (l.map (.int .i64))) (hn : n ≤ 1000000) :
    Calls Try.prog 41 #[.agg #[.int .i64 hops, .int .i64 settles, .slice A n c]] w fun e w' => e = .returned (.bool (coRB hops settles l)) ∧ Grows w w' := by
  have C1 := hide (fun (W : World) => coRight1 hops W)
  have C2 := hide (fun (W : World) => coRight1 settles W)
  have C3 := hide (fun (W : World) (g : Grows w W) => rkRight A n c l W (h.grows g) hn)
  have hv : coRB hops settles l = ((decide (1 ≤ hops) && decide (hops ≤ 1000)) && (decide (1 ≤ settles) && decide (settles ≤ 1000)) && rkB l) := by
    unfold coRB
    cases rkB l <;> simp [Bool.decide_and, Bool.and_assoc]
  rw [hv]
  clear h hv
  generalize (decide (1 ≤ hops) && decide (hops ≤ 1000)) = b1 at *
  generalize (decide (1 ≤ settles) && decide (settles ≤ 1000)) = b2 at *
  generalize rkB l = b3 at *
  cases b1 with
  | false =>
    go_enter Try.func41, Try.ntmps41
    go_wp2_with (go_at_call 81; refine (C1.out _).mono ?_; rintro e w' ⟨rfl, rfl⟩)
    all_goals go_ret
    all_goals exact ⟨rfl, GG⟩
  | true =>
    cases b2 with
    | false =>
      go_enter Try.func41, Try.ntmps41
      go_upto_region 1 with fail
      go_wp2_with fail
      case' _ => skip
      go_at_call 81
      refine (C1.out _).mono ?_
      rintro e w' ⟨rfl, rfl⟩
      go_wp2_with fail
      go_at_call 81
      refine (C2.out _).mono ?_
      rintro e w' ⟨rfl, rfl⟩
      go_wp2_with fail
      all_goals go_ret
      all_goals exact ⟨rfl, GG⟩
    | true =>
      go_enter Try.func41, Try.ntmps41
      go_wp2_with fail
      go_at_call 81
      refine (C1.out _).mono ?_
      rintro e w' ⟨rfl, rfl⟩
      go_wp2_with fail
      go_at_call 81
      refine (C2.out _).mono ?_
      rintro e w' ⟨rfl, rfl⟩
      go_wp2_with (go_at_call 82; refine (C3.out _ GG).mono ?_; rintro e w' ⟨rfl, hg⟩; obtain ⟨x1, rfl⟩ := hg.later; clear hg)
      all_goals go_ret
      all_goals exact ⟨rfl, GG⟩
end Go.Proofs.Ytgplpgldhoelcaa

