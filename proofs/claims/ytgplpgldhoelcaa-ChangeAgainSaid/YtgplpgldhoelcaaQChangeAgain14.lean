/- Contract: a shortcut is added to a core. -/
import Derived.Test.YtgplpgldhoelcaaQChangeAgain12
import Derived.Test.YtgplpgldhoelcaaQChangeAgain05
import Derived.Test.YtgplpgldhoelcaaQChangeAgain10
import Derived.BigQuiet
namespace Go.Proofs.Ytgplpgldhoelcaa
open Go Go.RowKit
attribute [local go_sem] Oper.semAt_some
def CoreRw.put (R : CoreRw) (u : Nat) (A : Option Addr) (c l : Nat) : CoreRw := ⟨R.As, R.cs, fun x => if x = u then A else R.Af x, fun x => if x = u then c else R.cf x, fun x => if x = u then l else R.ln x⟩
theorem hdr_put (R : CoreRw) (N u : Nat) (A : Option Addr) (c l : Nat) : ((List.range N).map R.hdr).set u (.slice A l c) = (List.range N).map (R.put u A c l).hdr := by
  apply List.ext_getElem?
  intro k
  rw [List.getElem?_set]
  by_cases e : u = k
  · subst e
    by_cases h : u < N
    · simp [h, CoreRw.hdr, CoreRw.put]
    · simp [h]
  · by_cases h : k < N
    · simp [h, e, CoreRw.hdr, CoreRw.put, Ne.symm e]
    · simp [h, e]
theorem CoreX.headed {w w' : World} {P : CorePl} {R : CoreRw} {c : Ctr} {nm nl u : Nat} {L : List Sc} (h : CoreX w P R (fun x => True ∧ x ≠ u) c nm nl L) (hu : u < P.N) {A' : Option Addr} {c' : Nat} {l' : List Itm} (ho : Own w' 0 40 2 A' l'.length c' (its l'))
    (ht : Touch (RowB (R.Af u)) w w') (hA : ∀ p, A' = some p → RowB (R.Af u) p.block ∨ New w w' p.block) :
    (Arr w' P.b 150 (P.cells R nl) ∧ Arr w' P.go 28 ((List.range P.N).map R.hdr)) ∧ CoreX (w'.setCell ⟨P.go, u, none⟩ (.slice A' l'.length c')) P (R.put u A' c' l'.length) (fun _ => True) ⟨c.O.set u l', c.G, c.at_, c.S, c.D⟩ nm nl L := by
  have na : ∀ {g : Nat} {t : TypeId} {cs : List Value}, Arr w g t cs → 40 ≠ t → ¬ RowB (R.Af u) g := fun k hne => by
    rintro ⟨p, hp, rfl⟩
    exact h.row_arr hu hp k hne rfl
  have nr : ∀ x, x < P.N → x ≠ u → ∀ p, R.Af x = some p → ¬ RowB (R.Af u) p.block := fun x hx hne p hp => by
    rintro ⟨q, hq, e⟩
    exact h.apart x u p q hx hu hne hp hq e.symm
  have q1 : Arr w' P.b 150 (P.cells R nl) := h.core.touch ht (na h.core (by decide))
  have q2 := h.out.touch ht (na h.out (by decide))
  have q3 := h.gone.touch ht (na h.gone (by decide))
  have q4 := h.deep.touch ht (na h.deep (by decide))
  have q5 := h.map.touch ht (by rintro ⟨p, hp, e⟩; exact h.row_map hu hp e)
  have q6 := h.list.touch ht (fun p hp => by rintro ⟨q, hq, e⟩; exact h.row_own hu hq h.list (by decide) p hp e)
  have ts : Touch (fun k => k = P.go) w' (w'.setCell ⟨P.go, u, none⟩ (.slice A' l'.length c')) := (Touch.refl (fun k => k = P.go) w').set (p := ⟨P.go, u, none⟩) (.inl rfl) _
  have ol := h.olen
  have oA : ∀ p, A' = some p → p.block < w'.heap.size ∧ ∃ cs, w'.heap[p.block]? = some (.cells cs 40 (0, 0)) := fun p hp => by
    subst hp
    rcases ho.2 with ⟨h1, _⟩ | ⟨g', cap, cur, h1, _, h3, _⟩
    · cases h1
    · injection h1 with h1 _ _
      injection h1 with h1
      subst h1
      exact ⟨(Array.getElem?_eq_some_iff.1 h3).1, cur, h3⟩
  have far : ∀ x, x < P.N → x ≠ u → ∀ p q, R.Af x = some p → A' = some q → p.block ≠ q.block := fun x hx hne p q hp hq e => by
    rcases hA q hq with ⟨r, hr, e2⟩ | ⟨h1, _⟩
    · exact h.apart x u p r hx hu hne hp hr (e.trans e2.symm)
    · have := (h.lt x hx p hp).1
      omega
  refine ⟨⟨q1, q2⟩, ⟨by simpa using ol, h.glen, h.dlen, ?_, ?_, q3.touch ts (q3.ne q2 (by decide)), q4.touch ts (q4.ne q2 (by decide)), q5.touch ts (fun e => q5.not_arr q2 e.symm), q6.touch ts (q6.not_arr q2 (by decide)), fun x hx _ => ?_, fun x hx p hp => ?_, fun x y p q hx hy hne hp hq => ?_⟩⟩
  · exact q1.touch ts (q1.ne q2 (by decide))
  · rw [← hdr_put]
    exact q2.set u _
  · by_cases e : x = u
    · subst e
      have e2 : ga (c.O.set x l') x = l' := by rw [ga_set (by rw [ol]; exact hx), if_pos rfl]
      show (R.put x A' c' l'.length).ln x = (ga (c.O.set x l') x).length ∧ Own _ 0 40 2 ((R.put x A' c' l'.length).Af x) (ga (c.O.set x l') x).length ((R.put x A' c' l'.length).cf x) (its (ga (c.O.set x l') x))
      rw [e2]
      simp only [CoreRw.put, if_true]
      exact ⟨trivial, ho.touch ts (ho.not_arr q2 (by decide))⟩
    · have e2 : ga (c.O.set u l') x = ga c.O x := by rw [ga_set (by rw [ol]; exact hu), if_neg e]
      show (R.put u A' c' l'.length).ln x = (ga (c.O.set u l') x).length ∧ Own _ 0 40 2 ((R.put u A' c' l'.length).Af x) (ga (c.O.set u l') x).length ((R.put u A' c' l'.length).cf x) (its (ga (c.O.set u l') x))
      rw [e2]
      simp only [CoreRw.put, if_neg e]
      obtain ⟨r1, r2⟩ := h.rows x hx ⟨trivial, e⟩
      have r3 := r2.touch ht (nr x hx e)
      exact ⟨r1, r3.touch ts (r3.not_arr q2 (by decide))⟩
  · have hp' : (if x = u then A' else R.Af x) = some p := hp
    have key : p.block < w'.heap.size ∧ ∃ cs, w'.heap[p.block]? = some (.cells cs 40 (0, 0)) := by
      by_cases e : x = u
      · rw [if_pos e] at hp'
        exact oA p hp'
      · rw [if_neg e] at hp'
        obtain ⟨h1, cs, h2⟩ := h.lt x hx p hp'
        exact ⟨Nat.lt_of_lt_of_le h1 ht.size, cs, ht.at (nr x hx e p hp') h2⟩
    obtain ⟨h1, cs, h2⟩ := key
    refine ⟨Nat.lt_of_lt_of_le h1 ts.size, cs, ts.at (fun e => ?_) h2⟩
    rw [e, q2.is] at h2
    injection h2 with h2
    injection h2 with _ h2
    exact absurd h2 (by decide)
  · have hp' : (if x = u then A' else R.Af x) = some p := hp
    have hq' : (if y = u then A' else R.Af y) = some q := hq
    by_cases e : x = u
    · rw [if_pos e] at hp'
      rw [if_neg (fun e2 => hne (e.trans e2.symm))] at hq'
      exact fun e3 => far y hy (fun e2 => hne (e.trans e2.symm)) q p hq' hp' e3.symm
    · rw [if_neg e] at hp'
      by_cases e2 : y = u
      · rw [if_pos e2] at hq'
        exact far x hx e p q hp' hq'
      · rw [if_neg e2] at hq'
        exact h.apart x y p q hx hy hne hp' hq'
def CoreAt (w : World) (S : Nat → Prop) (P : CorePl) (c : Ctr) : Prop := ∃ R, CoreX w P R (fun _ => True) c c.S.length c.S.length c.S ∧ ∀ k, CoreBl P R k → S k
theorem CoreAt.touch {w w' : World} {S S' : Nat → Prop} {P : CorePl} {c : Ctr} (h : CoreAt w S P c) (ht : Touch S' w w') (hs : ∀ k, S k → ¬ S' k) : CoreAt w' S P c := by
  obtain ⟨R, h1, h2⟩ := h
  exact ⟨R, h1.touch ht (fun k hk => hs k (h2 k hk)), h2⟩
theorem CoreAt.grow {w w' : World} {S : Nat → Prop} {P : CorePl} {c : Ctr} (h : CoreAt w S P c) (hg : Grows w w') : CoreAt w' S P c := h.touch (hg.touch (fun _ => False)) (fun _ _ => id)
theorem CoreAt.mono {w : World} {S S' : Nat → Prop} {P : CorePl} {c : Ctr} (h : CoreAt w S P c) (hs : ∀ k, S k → S' k) : CoreAt w S' P c := by
  obtain ⟨R, h1, h2⟩ := h
  exact ⟨R, h1, fun k hk => hs k (h2 k hk)⟩
set_option maxRecDepth 20000 in
set_option maxHeartbeats 2000000 in
theorem coAdd1 (w : World) (e : Itm) (x : Sc) (bx : Nat) (h : Arr w bx 95 (hsCells x)) : Calls Try.prog 145 (#[itVal e] ++ #[.pointer (some ⟨bx, 0, none⟩)]) w fun r w' => r = .returned (.bool (decide (e.1 = x.t))) ∧ Grows w w' := by
  obtain ⟨f, t, wt, ee, a2, b2⟩ := x
  obtain ⟨e1, e2⟩ := e
  unfold hsCells at h
  dsimp only at h ⊢
  unfold itVal
  dsimp only
  show Calls Try.prog 145 #[.agg #[.int .i64 (e1 : Int), .int .u64 (e2 : Int)], .pointer (some ⟨bx, 0, none⟩)] w _
  have hd : ((e1 : Int) == (t : Int)) = decide (e1 = t) := by
    by_cases e : e1 = t
    · subst e; simp
    · rw [beq_eq_false_iff_ne.2 (by omega), decide_eq_false e]
  go_enter Try.func145, Try.ntmps145
  go_wp2_with fail
  go_ret
  exact ⟨rfl, GG⟩
theorem runs_appT {w : World} {e : TypeId} {o : Oper} {a : Act} {t : TypeId} {size : Nat} (E : Elem t e size) {s x : Operand} (ho : o.op = .call { callee := .builtin .append, args := #[s, x], argTypes := #[t, t] })
    (n c : Nat) (A : Option Addr) (xs : List Value) (hs : a.eval s = .slice A n c) (hown : Own w 0 e size A n c xs) (g c' : Nat) (news : List Value) (hx : a.eval x = .slice (some ⟨g, 0, none⟩) 1 c')
    (hl : news.length = size) (hv : ∀ j u, news[j]? = some u → w.cell? ⟨g, j, none⟩ = some u) (h1 : ∀ u ∈ news, u.oneCell' = true) (hnm : n + 1 ≤ 1000000000000) :
    runsTo Try.prog (fun u w' => ∃ A' c'', u = .slice A' (n + 1) c'' ∧ Own w' 0 e size A' (n + 1) c'' (xs ++ news) ∧ Touch (RowB A) w w' ∧ ∀ p, A' = some p → RowB A p.block ∨ New w w' p.block) ((execOp a.eval o).run Try.prog w) := by
  obtain ⟨i, z, bytes, hi, hz, hsz, hby, hzs, hb64⟩ := E.info
  obtain ⟨v', w', hr, hown', hgr, _, hat⟩ := run_append_own_at (P := Try.prog) w 0 t o.type e i z size bytes E.under hi hz hsz hby hzs E.pos (.slice A n c) n xs hown ⟨g, 0, none⟩ 1 c' news (by omega) (fun j u hu => by rw [add_pl2, Nat.zero_add]; exact hv j u hu) h1 (by unfold maxLen; omega) (Nat.le_trans (Nat.mul_le_mul hnm hb64) (by omega)) (Nat.zero_le _)
  unfold execOp
  simp only [ho, resolve, invoke, builtin, Sem.run_bind, Sem.run_pure, Result.andThen_ok, List.map_toArray, List.map_cons, List.map_nil, hs, hx, hr]
  obtain ⟨A', c'', rfl⟩ := own_form hown'
  refine ⟨A', c'', rfl, hown', (Touch.refl _ w).grown hgr fun k hk => .inl (by
    cases A with
    | none => simp [Value.ownBlock] at hk
    | some p => simp [Value.ownBlock] at hk; exact ⟨p, rfl, hk⟩), fun p hp => ?_⟩
  subst hp
  simp only [Value.ownBlock] at hat
  rcases hat with hat | hat
  · refine .inl ?_
    cases A with
    | none => simp at hat
    | some q => simp at hat; exact ⟨q, rfl, hat.symm⟩
  · injection hat with hat
    exact .inr ⟨by omega, (World.ownsRow.lt hown' p.block rfl).2⟩
def GiveCo (w : World) (S : Nat → Prop) (P : CorePl) (c : Ctr) (e : Ending) (w' : World) : Prop :=
  e = .returned (.tuple #[]) ∧ CoreAt w' (fun k => S k ∨ New w w' k) P c ∧ Touch S w w'
set_option maxRecDepth 40000 in
set_option maxHeartbeats 8000000 in
theorem coAdd (P : CorePl) (c : Ctr) (f t wt : Nat) (ee a2 b2 : Int) (S : Nat → Prop) (w : World) (h : CoreAt w S P c) (hs : ∀ k, S k → k < w.heap.size) (hin : CtN P.N c) (hf : f < P.N) (ht : t < P.N) (hN : P.N ≤ 4096) (hL : c.S.length ≤ 1000000000) (hrow : (ga c.O f).length ≤ 100000) (_ : wt < 2 ^ 64)
    (_ : I64 ee) (_ : I64 a2) (_ : I64 b2) :
    Calls Try.prog 112 #[.pointer (some ⟨P.b, 0, none⟩), scVal ⟨f, t, wt, ee, a2, b2⟩] w (GiveCo w S P (c.add ⟨f, t, wt, ee, a2, b2⟩)) := by
  obtain ⟨R, hX, hS⟩ := h
  have HX := hide hX
  have HSS := hide hs
  have HS := hide hS
  have HIN := hide hin
  have hA0 : CoreAt w S P c := ⟨R, hX, hS⟩
  have HA0 := hide hA0
  have wf : I64 (f : Int) := ⟨by omega, by omega⟩
  have wt' : I64 (t : Int) := ⟨by omega, by omega⟩
  have HM := hide (mpC_at c.at_ f t)
  obtain ⟨ca, hca⟩ : ∃ d, d = c.add ⟨f, t, wt, ee, a2, b2⟩ := ⟨_, rfl⟩
  rw [← hca]
  have HC := hide (show c.has f t wt = true → ca = c from fun hh => hca.trans (Ctr.add_yes hh))
  have HC2 := hide (show ¬ c.has f t wt = true → ca = ⟨c.O.set f ((ga c.O f).filter (fun a => !decide (a.1 = t)) ++ [(t, wt)]), c.G, fun p q => if p = f ∧ q = t then some c.S.length else c.at_ p q, c.S ++ [⟨f, t, wt, ee, a2, b2⟩], c.D⟩ from fun hh => hca.trans (Ctr.add_no hh))
  clear hca
  have hcore := hX.core
  have hbm := hX.map
  unfold CorePl.cells at hcore
  unfold scVal
  dsimp only
  have hL6 := hide hX.list
  have wl : I64 (c.S.length : Int) := ⟨by omega, by omega⟩
  clear hX hs hS hA0 hin
  obtain ⟨W1, hW1⟩ : ∃ W1, W1 = (w.alloc (.cells #[.int .i64 (f : Int), .int .i64 (t : Int), .int .u64 (wt : Int), .int .i64 ee, .int .i64 a2, .int .i64 b2] 95)).alloc (.cells #[.int .i64 (f : Int), .int .i64 (t : Int)] 189) := ⟨_, rfl⟩
  have hgw1 : Grows w W1 := by rw [hW1]; exact ((Grows.refl _).new _).new _
  have ax : Arr W1 w.heap.size 95 [.int .i64 (f : Int), .int .i64 (t : Int), .int .u64 (wt : Int), .int .i64 ee, .int .i64 a2, .int .i64 b2] := by rw [hW1]; exact (Arr.make _ _ _).grow ((Grows.refl _).new _)
  have ak : Arr W1 (w.heap.size + 1) 189 [.int .i64 (f : Int), .int .i64 (t : Int)] := by
    rw [hW1]
    have := Arr.make (w.alloc (.cells #[.int .i64 (f : Int), .int .i64 (t : Int), .int .u64 (wt : Int), .int .i64 ee, .int .i64 a2, .int .i64 b2] 95)) [.int .i64 (f : Int), .int .i64 (t : Int)] 189
    simpa using this
  have hz1 : Hid (W1.heap.size = w.heap.size + 1 + 1) := hide (by rw [hW1]; simp)
  go_enter Try.func112, Try.ntmps112
  go_upto_region 2 with fail
  rw [← hW1]
  clear hW1
  obtain ⟨bx, hbx⟩ : ∃ b, b = w.heap.size := ⟨_, rfl⟩
  rw [← hbx] at ax ak hz1 ⊢
  have HBX := hide hbx
  clear hbx
  obtain ⟨y1, rfl⟩ := hgw1.later
  have hcore1 := hcore.grow y1.grows
  have hbm1 := hbm.touch (y1.grows.touch (fun _ => False)) id
  have HCO := hide hcore
  have HBM := hide hbm
  clear hcore hbm
  have hlk := fun x : Later y1.now => (hbm1.grow x.grows).lookOk wf wt'
  rw [HM.out] at hlk
  clear hbm1
  have hbl : P.bm < w.heap.size := HBM.out.lt
  have HA3 := hide (show c.has f t wt = true ∨ ¬ c.has f t wt = true from by cases c.has f t wt <;> simp)
  cases hq : c.at_ f t with
  | none =>
    rw [hq] at hlk
    simp only [Option.map_none, Option.getD_none, Option.isSome_none] at hlk
    have hno : ¬ c.has f t wt = true := by unfold Ctr.has; rw [hq]; simp
    have HCA := hide (HC2.out hno)
    clear HC HC2 HA3 HA0 hno
    go_upto_region 2 with fail
    ((first | refine wp_region_gen (by kernel_rfl) (by kernel_rfl) ?_); (repeat' (first | (refine gLex_val0 rfl (by kernel_rfl) (fun K hK => ?_); (go_simp; (try (simp only [↓IntWalk.iteOmega]; try go_simp)); (try simp (disch := omega) only [IntWalk.i64_in]); (try simp (disch := omega) only [IntWalk.u64_in]); first | (refine hK _ ?_; clear hK K) | (apply Exists.intro; refine ⟨fun x => ?_, hK _ ?_⟩; (first | fail); clear hK K))) | (refine gLex_undef rfl rfl rfl (by kernel_rfl) (fun K hK => ?_); go_simp; refine hK _ ?_; clear hK K) | (refine gLex_ask rfl rfl rfl ?_; first | (apply gAsk_yes; kernel_rfl; intro K hK; (go_simp; (try (simp only [↓IntWalk.iteOmega]; try go_simp)); (try simp (disch := omega) only [IntWalk.i64_in]); (try simp (disch := omega) only [IntWalk.u64_in]); first | (refine hK _ ?_; clear hK K) | (apply Exists.intro; refine ⟨fun x => ?_, hK _ ?_⟩; (first | fail); clear hK K))) | ((first | apply gAsk_no1 | apply gAsk_no2); kernel_rfl; intro K hK; simp [go_sem]; refine hK _ ?_; clear hK K) | (apply gAsk_part; kernel_rfl; all_goals (intro h K hK; (try simp only [Bool.not_true] at h); (try simp only [Bool.not_false] at h); (try simp only [decide_eq_true_eq] at h); (try simp only [decide_eq_false_iff_not] at h); first | (exfalso; first | contradiction | omega) | (go_simp; (try (simp only [↓IntWalk.iteOmega]; try go_simp)); (try simp (disch := omega) only [IntWalk.i64_in]); (try simp (disch := omega) only [IntWalk.u64_in]); first | (refine hK _ ?_; clear hK K) | (apply Exists.intro; refine ⟨fun x => ?_, hK _ ?_⟩; (first | fail); clear hK K))))))); all_goals ((apply gLex_end); intro x2))
    go_upto_region 3 with fail
    ((first | refine wp_region_gen (by kernel_rfl) (by kernel_rfl) ?_); (repeat' (first | (refine gLex_val0 rfl (by kernel_rfl) (fun K hK => ?_); (go_simp; (try (simp only [↓IntWalk.iteOmega]; try go_simp)); (try simp (disch := omega) only [IntWalk.i64_in]); (try simp (disch := omega) only [IntWalk.u64_in]); first | (refine hK _ ?_; clear hK K) | (apply Exists.intro; refine ⟨fun x => ?_, hK _ ?_⟩; (first | fail); clear hK K))) | (refine gLex_undef rfl rfl rfl (by kernel_rfl) (fun K hK => ?_); go_simp; refine hK _ ?_; clear hK K) | (refine gLex_ask rfl rfl rfl ?_; first | (apply gAsk_yes; kernel_rfl; intro K hK; (go_simp; (try (simp only [↓IntWalk.iteOmega]; try go_simp)); (try simp (disch := omega) only [IntWalk.i64_in]); (try simp (disch := omega) only [IntWalk.u64_in]); first | (refine hK _ ?_; clear hK K) | (apply Exists.intro; refine ⟨fun x => ?_, hK _ ?_⟩; (first | fail); clear hK K))) | ((first | apply gAsk_no1 | apply gAsk_no2); kernel_rfl; intro K hK; simp [go_sem]; refine hK _ ?_; clear hK K) | (apply gAsk_part; kernel_rfl; all_goals (intro h K hK; (try simp only [Bool.not_true] at h); (try simp only [Bool.not_false] at h); (try simp only [decide_eq_true_eq] at h); (try simp only [decide_eq_false_iff_not] at h); first | (exfalso; first | contradiction | omega) | (go_simp; (try (simp only [↓IntWalk.iteOmega]; try go_simp)); (try simp (disch := omega) only [IntWalk.i64_in]); (try simp (disch := omega) only [IntWalk.u64_in]); first | (refine hK _ ?_; clear hK K) | (apply Exists.intro; refine ⟨fun x => ?_, hK _ ?_⟩; (first | fail); clear hK K))))))); all_goals ((apply gLex_end); intro x3))
    go_upto_region 4 with fail
    (refine wp_region_tail1 10 (by kernel_rfl) (by kernel_rfl) ?_; simp only [List.take_succ_cons, List.take_zero, List.drop_succ_cons, List.drop_zero]; (repeat' (first | (refine gLex_val0 rfl (by kernel_rfl) (fun K hK => ?_); (go_simp; (try (simp only [↓IntWalk.iteOmega]; try go_simp)); (try simp (disch := omega) only [IntWalk.i64_in]); (try simp (disch := omega) only [IntWalk.u64_in]); first | (refine hK _ ?_; clear hK K) | (apply Exists.intro; refine ⟨fun x => ?_, hK _ ?_⟩; (first | fail); clear hK K))) | (refine gLex_undef rfl rfl rfl (by kernel_rfl) (fun K hK => ?_); go_simp; refine hK _ ?_; clear hK K) | (refine gLex_ask rfl rfl rfl ?_; first | (apply gAsk_yes; kernel_rfl; intro K hK; (go_simp; (try (simp only [↓IntWalk.iteOmega]; try go_simp)); (try simp (disch := omega) only [IntWalk.i64_in]); (try simp (disch := omega) only [IntWalk.u64_in]); first | (refine hK _ ?_; clear hK K) | (apply Exists.intro; refine ⟨fun x => ?_, hK _ ?_⟩; (first | fail); clear hK K))) | ((first | apply gAsk_no1 | apply gAsk_no2); kernel_rfl; intro K hK; simp [go_sem]; refine hK _ ?_; clear hK K)))); refine gLex_endT (fun x => ?_))
    go_wp2_with (at_mapUpdate; refine wp_mapPutV rfl _ _ _ rfl P.bm c.S.length (mpC c.at_) rfl (HBM.out.grow GG) (by unfold maxLen; omega) _ _ _ rfl rfl wf wt' wl ?_; intro w1 hmap1 ht1)
    rw [mpC_put] at hmap1
    have hX1 := (HX.out.grow (show Grows w _ from GG)).mapped hmap1 ht1
    have ax1 := (ax.grow (show Grows y1.now _ from GG)).touch ht1 (by rw [HBX.out]; omega)
    have HT1 := hide ((Grows.touch (show Grows w _ from GG) S).trans (ht1.mono (fun k hk => HS.out k (.inr (.inr (.inr (.inl hk)))))))
    clear ax ak hcore1 hmap1 ht1 hlk
    have hc1 := hX1.core
    unfold CorePl.cells at hc1
    have HX1 := hide hX1
    clear hX1
    have hL1 := hide hc1
    have hw1s : w.heap.size ≤ w1.heap.size := HT1.out.size
    have hxb : P.b < w.heap.size := HCO.out.lt
    have hbxb : P.b ≠ bx := by rw [HBX.out]; omega
    have hAx : ∀ p, R.As = some p → p.block ≠ bx := fun p hp e => by
      have := HSS.out _ (HS.out _ (.inr (.inr (.inr (.inr (.inr (.inl ⟨p, hp, rfl⟩)))))))
      rw [HBX.out] at e
      omega
    have HAX := hide hAx
    have HSB := hide (show ∀ k, RowB R.As k → S k from fun k hk => HS.out k (.inr (.inr (.inr (.inr (.inr (.inl hk)))))))
    go_wp2_with fail
    go_region_law (refine step_appT elemSc rfl _ _ rfl (RowB R.As) _ R.cs R.As _ rfl (HX1.out.list.grows GG) (fun p hp => ⟨p, hp, rfl⟩) _ _ (hsCells ⟨f, t, wt, ee, a2, b2⟩) rfl rfl (fun j u hu => by
      match j, hu with
      | 0, hu => simp [hsCells] at hu; subst hu; simp [go_sem]
      | 1, hu => simp [hsCells] at hu; subst hu; simp [go_sem]
      | 2, hu => simp [hsCells] at hu; subst hu; simp [go_sem]
      | 3, hu => simp [hsCells] at hu; subst hu; simp [go_sem]
      | 4, hu => simp [hsCells] at hu; subst hu; simp [go_sem]
      | 5, hu => simp [hsCells] at hu; subst hu; simp [go_sem]) (fun u hu => by simp [hsCells] at hu; rcases hu with rfl | rfl | rfl | rfl | rfl | rfl <;> rfl) (by omega) ?_; intro A2 c2 w2 hown2 ht2 hA2; rw [← hss_app] at hown2; have hX2 := (HX1.out.grow (show Grows w1 _ from GG)).listed (nl' := c.S.length + 1) (L' := c.S ++ [⟨f, t, wt, ee, a2, b2⟩]) (by rw [List.length_append, List.length_singleton]; exact hown2) ht2; have hc2 := hX2.1; unfold CorePl.cells at hc2; have ax2 := (ax1.grow (show Grows w1 _ from GG)).touch ht2 (fun ⟨p, hp, e⟩ => HAX.out p hp e); have HT2 := hide ((Grows.touch (show Grows w1 _ from GG) S).trans (ht2.mono HSB.out)); have HX2 := hide hX2.2; have HA2 := hide (fun p hp => ((hA2 p hp).imp id (fun h => Nat.le_trans (show Grows w1 _ from GG).size h.1) : RowB R.As p.block ∨ w1.heap.size ≤ p.block)); clear hX2 hown2 ht2 hA2)
    all_goals
      have ax3 := ax2.other (p := ⟨P.b, 3, none⟩) hbxb (.slice A2 (c.S.length + 1) c2)
      have HT3 := hide (((HT1.out.trans HT2.out)).set (p := ⟨P.b, 3, none⟩) (.inl (HS.out _ (.inl rfl))) (.slice A2 (c.S.length + 1) c2))
      clear HT1 HT2 hc2 ax2 ax1 hc1 hL1 HX1
      generalize w2.setCell ⟨P.b, 3, none⟩ (.slice A2 (c.S.length + 1) c2) = w3 at *
      have hc3 := HX2.out.core
      unfold CorePl.cells at hc3
      obtain ⟨hln, hor⟩ := HX2.out.rows f hf trivial
      have m3 : Mine w3 ⟨P.go, f, none⟩ (.slice (R.Af f) (ga c.O f).length (R.cf f)) := HX2.out.out.mine f (by
        rw [List.getElem?_map, List.getElem?_range hf]
        show some (Value.slice (R.Af f) (R.ln f) (R.cf f)) = _
        rw [show R.ln f = (ga c.O f).length from hln])
      have hrx : ∀ p, R.Af f = some p → p.block ≠ bx := fun p hp => HX2.out.row_arr hf hp ax3 (by decide)
      have HRX := hide hrx
      have HSR := hide (show ∀ k, RowB (R.Af f) k → S k from fun k hk => HS.out k (.inr (.inr (.inr (.inr (.inr (.inr ⟨f, hf, hk⟩)))))))
      have HK := hide (fun args W => run_callGo (P := Try.prog) Try.func145 (by kernel_rfl) (by kernel_rfl) args W)
      have CDEL := hide (fun (W : World) (hg : Grows w3 W) => delFuncA W (R.Af f) (R.cf f) (ga c.O f) 145 #[.pointer (some ⟨bx, 0, none⟩)] (fun a => decide (a.1 = t)) (hor.grows hg) (by omega) HK.out (fun W2 ht2 e _ => coAdd1 W2 e ⟨f, t, wt, ee, a2, b2⟩ bx ((ax3.grow hg).touch ht2 (fun ⟨p, hp, e⟩ => HRX.out p hp e))))
      have hfl : ((ga c.O f).filter (fun x => !decide (x.1 = t))).length ≤ 100000 := Nat.le_trans (List.length_filter_le _ _) hrow
      have HF := hide (show (ga c.O f).filter (fun x => !decide (x.1 = t)) = _ from rfl)
      clear hor hln hrx
      go_upto_region 6 with fail
      (refine wp_region_tail1 10 (by kernel_rfl) (by kernel_rfl) ?_; simp only [List.take_succ_cons, List.take_zero, List.drop_succ_cons, List.drop_zero]; (repeat' (first | (refine gLex_val0 rfl (by kernel_rfl) (fun K hK => ?_); (go_simp; (try (simp only [↓IntWalk.iteOmega]; try go_simp)); (try simp (disch := omega) only [IntWalk.i64_in]); (try simp (disch := omega) only [IntWalk.u64_in]); first | (refine hK _ ?_; clear hK K) | (apply Exists.intro; refine ⟨fun x => ?_, hK _ ?_⟩; (first | fail); clear hK K))) | (refine gLex_undef rfl rfl rfl (by kernel_rfl) (fun K hK => ?_); go_simp; refine hK _ ?_; clear hK K) | (refine gLex_ask rfl rfl rfl ?_; first | (apply gAsk_yes; kernel_rfl; intro K hK; (go_simp; (try (simp only [↓IntWalk.iteOmega]; try go_simp)); (try simp (disch := omega) only [IntWalk.i64_in]); (try simp (disch := omega) only [IntWalk.u64_in]); first | (refine hK _ ?_; clear hK K) | (apply Exists.intro; refine ⟨fun x => ?_, hK _ ?_⟩; (first | fail); clear hK K))) | ((first | apply gAsk_no1 | apply gAsk_no2); kernel_rfl; intro K hK; simp [go_sem]; refine hK _ ?_; clear hK K)))); refine gLex_endT (fun x => ?_))
      go_upto_region 7 with (go_at_call 144; refine (CDEL.out _ GG).mono ?_; rintro e w4 ⟨ht4, rfl, ho4⟩; have HX4 := hide ((HX2.out.grow (show Grows w3 _ from GG)).turned hf ht4 (fun p hp => by rw [hp] at ho4; exact ho4.cells_)); have ax4 := (ax3.grow (show Grows w3 _ from GG)).touch ht4 (fun ⟨p, hp, e⟩ => HRX.out p hp e); have HT4 := hide ((HT3.out.grows (show Grows w3 _ from GG)).trans (ht4.mono HSR.out)); have HO4 := hide ho4; clear ht4 ho4)
      generalize (ga c.O f).filter (fun x => !decide (x.1 = t)) = fl at *
      have hw4s : w.heap.size ≤ w4.heap.size := HT4.out.size
      clear hc3 m3 ax3 HT3 HX2 CDEL HK HF
      obtain ⟨c0, hc0⟩ : ∃ d, d = c := ⟨_, rfl⟩
      rw [← hc0] at HX4 HCA
      go_wp2_with fail
      obtain ⟨VV, hVV⟩ : ∃ V : Nat × Option Addr × Nat → Nat → Value, V = fun c j => ([.pointer (some ⟨P.b, 0, none⟩), .pointer (some ⟨P.b, 0, none⟩), .pointer (some ⟨P.b, 0, none⟩), .pointer (some ⟨P.b, 0, none⟩), .slice (some ⟨P.go, 0, none⟩) P.N P.N, .pointer (some ⟨bx, 0, none⟩), .int .i64 (f : Int), .slice (R.Af f) fl.length (R.cf f), .pointer (some ⟨bx, 1, none⟩), .int .i64 (t : Int), .pointer (some ⟨bx, 2, none⟩), .int .u64 (wt : Int), .agg #[.int .i64 (t : Int), .int .u64 (wt : Int)], .slice (some ⟨c.1, 0, none⟩) 1 1, .slice c.2.1 (fl.length + 1) c.2.2, .pointer (some ⟨P.go, f, none⟩), undef] : List Value).getD j undef := ⟨_, rfl⟩
      refine wp_region_some (by kernel_rfl) (by kernel_rfl) (by kernel_rfl) (by kernel_rfl) (by kernel_rfl) VV
        (fun c D w1 => (D 16 = false → Arr w1 P.b 150 (P.cells ⟨A2, c2, R.Af, R.cf, R.ln⟩ (c0.S.length + 1)) ∧ Arr w1 P.go 28 ((List.range P.N).map (CoreRw.hdr ⟨A2, c2, R.Af, R.cf, R.ln⟩)) ∧ Arr w1 bx 95 [.int .i64 (f : Int), .int .i64 (t : Int), .int .u64 (wt : Int), .int .i64 ee, .int .i64 a2, .int .i64 b2]) ∧
          (D 14 = false → Grows w4 w1 ∧ (D 13 = true → Arr w1 c.1 40 [.int .i64 (t : Int), .int .u64 (wt : Int)])) ∧
          (D 14 = true → D 16 = false → Touch S w w1 ∧ CoreX (w1.setCell ⟨P.go, f, none⟩ (.slice c.2.1 (fl.length + 1) c.2.2)) P (CoreRw.put ⟨A2, c2, R.Af, R.cf, R.ln⟩ f c.2.1 c.2.2 (fl.length + 1)) (fun _ => True) ⟨c0.O.set f (fl ++ [(t, wt)]), c0.G, fun p q => if p = f ∧ q = t then some c0.S.length else c0.at_ p q, c0.S, c0.D⟩ (c0.S.length + 1) (c0.S.length + 1) (c0.S ++ [⟨f, t, wt, ee, a2, b2⟩]) ∧ ∀ p, c.2.1 = some p → RowB (R.Af f) p.block ∨ w4.heap.size ≤ p.block) ∧
          (D 16 = true → Touch S w w1 ∧ CoreX w1 P (CoreRw.put ⟨A2, c2, R.Af, R.cf, R.ln⟩ f c.2.1 c.2.2 (fl.length + 1)) (fun _ => True) ⟨c0.O.set f (fl ++ [(t, wt)]), c0.G, fun p q => if p = f ∧ q = t then some c0.S.length else c0.at_ p q, c0.S, c0.D⟩ (c0.S.length + 1) (c0.S.length + 1) (c0.S ++ [⟨f, t, wt, ee, a2, b2⟩]) ∧ ∀ p, c.2.1 = some p → RowB (R.Af f) p.block ∨ w4.heap.size ≤ p.block))
        (0, none, 0) ⟨fun _ => ⟨HX4.out.core.grow (Grows.refl _).drew, HX4.out.out.grow (Grows.refl _).drew, ax4.grow (Grows.refl _).drew⟩, fun _ => ⟨(Grows.refl _).drew, fun h => absurd h (by simp)⟩, fun h => absurd h (by simp), fun h => absurd h (by simp)⟩ ?hs ?he
      case hs =>
        subst hVV
        intro c a hV hO i oo' ho D hcl hD hpre w1 hM
        obtain ⟨hB, hG, h5, h6⟩ := hM
        match i, ho, hD, hpre with
          | 0, ho, hD, hpre =>
            cases (show some _ = some oo' from ho)
            have e0 := ev_nfK ((hO 0 (notDstK (by kernel_rfl))).trans rfl)
            have h16 : D 16 = false := by
              cases hd : D 16 with
              | false => rfl
              | true => exact absurd (hcl 1 0 (hcl 2 1 (hcl 3 2 (hcl 4 3 (hcl 15 4 (hcl 16 15 hd (by kernel_rfl)) (by kernel_rfl)) (by kernel_rfl)) (by kernel_rfl)) (by kernel_rfl)) (by kernel_rfl)) (by rw [hD]; exact Bool.false_ne_true)
            obtain ⟨z1, z2, z3⟩ := hB h16
            have z0 := z1
            unfold CorePl.cells at z0
            refine runsTo_mono11 (Q := fun uu w2 => w2 = w1 ∧ uu = (.pointer (some ⟨P.b, 0, none⟩) : Value)) ?_ (fun uu w2 ⟨h1, h2⟩ => ⟨c, by subst h1; exact ⟨by simpa using hB, by simpa using hG, by simpa using h5, by simpa using h6⟩, fun _ _ _ => rfl, .inr h2⟩)
            clear hB hG h5 h6
            go_simp
            all_goals exact ⟨rfl, rfl⟩
          | 1, ho, hD, hpre =>
            cases (show some _ = some oo' from ho)
            have e67 := ev_nfK (hV 0 67 rfl)
            have h16 : D 16 = false := by
              cases hd : D 16 with
              | false => rfl
              | true => exact absurd (hcl 2 1 (hcl 3 2 (hcl 4 3 (hcl 15 4 (hcl 16 15 hd (by kernel_rfl)) (by kernel_rfl)) (by kernel_rfl)) (by kernel_rfl)) (by kernel_rfl)) (by rw [hD]; exact Bool.false_ne_true)
            obtain ⟨z1, z2, z3⟩ := hB h16
            have z0 := z1
            unfold CorePl.cells at z0
            refine runsTo_mono11 (Q := fun uu w2 => w2 = w1 ∧ uu = (.pointer (some ⟨P.b, 0, none⟩) : Value)) ?_ (fun uu w2 ⟨h1, h2⟩ => ⟨c, by subst h1; exact ⟨by simpa using hB, by simpa using hG, by simpa using h5, by simpa using h6⟩, fun _ _ _ => rfl, .inr h2⟩)
            clear hB hG h5 h6
            go_simp
            all_goals exact ⟨rfl, rfl⟩
          | 2, ho, hD, hpre =>
            cases (show some _ = some oo' from ho)
            have e68 := ev_nfK (hV 1 68 rfl)
            have h16 : D 16 = false := by
              cases hd : D 16 with
              | false => rfl
              | true => exact absurd (hcl 3 2 (hcl 4 3 (hcl 15 4 (hcl 16 15 hd (by kernel_rfl)) (by kernel_rfl)) (by kernel_rfl)) (by kernel_rfl)) (by rw [hD]; exact Bool.false_ne_true)
            obtain ⟨z1, z2, z3⟩ := hB h16
            have z0 := z1
            unfold CorePl.cells at z0
            refine runsTo_mono11 (Q := fun uu w2 => w2 = w1 ∧ uu = (.pointer (some ⟨P.b, 0, none⟩) : Value)) ?_ (fun uu w2 ⟨h1, h2⟩ => ⟨c, by subst h1; exact ⟨by simpa using hB, by simpa using hG, by simpa using h5, by simpa using h6⟩, fun _ _ _ => rfl, .inr h2⟩)
            clear hB hG h5 h6
            go_simp
            all_goals exact ⟨rfl, rfl⟩
          | 3, ho, hD, hpre =>
            cases (show some _ = some oo' from ho)
            have e69 := ev_nfK (hV 2 69 rfl)
            have h16 : D 16 = false := by
              cases hd : D 16 with
              | false => rfl
              | true => exact absurd (hcl 4 3 (hcl 15 4 (hcl 16 15 hd (by kernel_rfl)) (by kernel_rfl)) (by kernel_rfl)) (by rw [hD]; exact Bool.false_ne_true)
            obtain ⟨z1, z2, z3⟩ := hB h16
            have z0 := z1
            unfold CorePl.cells at z0
            refine runsTo_mono11 (Q := fun uu w2 => w2 = w1 ∧ uu = (.pointer (some ⟨P.b, 0, none⟩) : Value)) ?_ (fun uu w2 ⟨h1, h2⟩ => ⟨c, by subst h1; exact ⟨by simpa using hB, by simpa using hG, by simpa using h5, by simpa using h6⟩, fun _ _ _ => rfl, .inr h2⟩)
            clear hB hG h5 h6
            go_simp
            all_goals exact ⟨rfl, rfl⟩
          | 4, ho, hD, hpre =>
            cases (show some _ = some oo' from ho)
            have e70 := ev_nfK (hV 3 70 rfl)
            have h16 : D 16 = false := by
              cases hd : D 16 with
              | false => rfl
              | true => exact absurd (hcl 15 4 (hcl 16 15 hd (by kernel_rfl)) (by kernel_rfl)) (by rw [hD]; exact Bool.false_ne_true)
            obtain ⟨z1, z2, z3⟩ := hB h16
            have z0 := z1
            unfold CorePl.cells at z0
            refine runsTo_mono11 (Q := fun uu w2 => w2 = w1 ∧ uu = (.slice (some ⟨P.go, 0, none⟩) P.N P.N : Value)) ?_ (fun uu w2 ⟨h1, h2⟩ => ⟨c, by subst h1; exact ⟨by simpa using hB, by simpa using hG, by simpa using h5, by simpa using h6⟩, fun _ _ _ => rfl, .inr h2⟩)
            clear hB hG h5 h6
            go_simp
            all_goals exact ⟨rfl, rfl⟩
          | 5, ho, hD, hpre =>
            cases (show some _ = some oo' from ho)
            have e3 := ev_nfK ((hO 3 (notDstK (by kernel_rfl))).trans rfl)
            have h16 : D 16 = false := by
              cases hd : D 16 with
              | false => rfl
              | true => exact absurd (hcl 6 5 (hcl 15 6 (hcl 16 15 hd (by kernel_rfl)) (by kernel_rfl)) (by kernel_rfl)) (by rw [hD]; exact Bool.false_ne_true)
            obtain ⟨z1, z2, z3⟩ := hB h16
            have z0 := z1
            unfold CorePl.cells at z0
            refine runsTo_mono11 (Q := fun uu w2 => w2 = w1 ∧ uu = (.pointer (some ⟨bx, 0, none⟩) : Value)) ?_ (fun uu w2 ⟨h1, h2⟩ => ⟨c, by subst h1; exact ⟨by simpa using hB, by simpa using hG, by simpa using h5, by simpa using h6⟩, fun _ _ _ => rfl, .inr h2⟩)
            clear hB hG h5 h6
            go_simp
            all_goals exact ⟨rfl, rfl⟩
          | 6, ho, hD, hpre =>
            cases (show some _ = some oo' from ho)
            have e72 := ev_nfK (hV 5 72 rfl)
            have h16 : D 16 = false := by
              cases hd : D 16 with
              | false => rfl
              | true => exact absurd (hcl 15 6 (hcl 16 15 hd (by kernel_rfl)) (by kernel_rfl)) (by rw [hD]; exact Bool.false_ne_true)
            obtain ⟨z1, z2, z3⟩ := hB h16
            have z0 := z1
            unfold CorePl.cells at z0
            refine runsTo_mono11 (Q := fun uu w2 => w2 = w1 ∧ uu = (.int .i64 (f : Int) : Value)) ?_ (fun uu w2 ⟨h1, h2⟩ => ⟨c, by subst h1; exact ⟨by simpa using hB, by simpa using hG, by simpa using h5, by simpa using h6⟩, fun _ _ _ => rfl, .inr h2⟩)
            clear hB hG h5 h6
            go_simp
            all_goals exact ⟨rfl, rfl⟩
          | 7, ho, hD, hpre =>
            cases (show some _ = some oo' from ho)
            have e7 := ev_nfK ((hO 7 (notDstK (by kernel_rfl))).trans rfl)
            have h16 : D 16 = false := by
              cases hd : D 16 with
              | false => rfl
              | true => exact absurd (hcl 14 7 (hcl 16 14 hd (by kernel_rfl)) (by kernel_rfl)) (by rw [hD]; exact Bool.false_ne_true)
            obtain ⟨z1, z2, z3⟩ := hB h16
            have z0 := z1
            unfold CorePl.cells at z0
            refine runsTo_mono11 (Q := fun uu w2 => w2 = w1 ∧ uu = (.slice (R.Af f) fl.length (R.cf f) : Value)) ?_ (fun uu w2 ⟨h1, h2⟩ => ⟨c, by subst h1; exact ⟨by simpa using hB, by simpa using hG, by simpa using h5, by simpa using h6⟩, fun _ _ _ => rfl, .inr h2⟩)
            clear hB hG h5 h6
            go_simp
            all_goals exact ⟨rfl, rfl⟩
          | 8, ho, hD, hpre =>
            cases (show some _ = some oo' from ho)
            have e3 := ev_nfK ((hO 3 (notDstK (by kernel_rfl))).trans rfl)
            have h16 : D 16 = false := by
              cases hd : D 16 with
              | false => rfl
              | true => exact absurd (hcl 9 8 (hcl 12 9 (hcl 13 12 (hcl 14 13 (hcl 16 14 hd (by kernel_rfl)) (by kernel_rfl)) (by kernel_rfl)) (by kernel_rfl)) (by kernel_rfl)) (by rw [hD]; exact Bool.false_ne_true)
            obtain ⟨z1, z2, z3⟩ := hB h16
            have z0 := z1
            unfold CorePl.cells at z0
            refine runsTo_mono11 (Q := fun uu w2 => w2 = w1 ∧ uu = (.pointer (some ⟨bx, 1, none⟩) : Value)) ?_ (fun uu w2 ⟨h1, h2⟩ => ⟨c, by subst h1; exact ⟨by simpa using hB, by simpa using hG, by simpa using h5, by simpa using h6⟩, fun _ _ _ => rfl, .inr h2⟩)
            clear hB hG h5 h6
            go_simp
            all_goals exact ⟨rfl, rfl⟩
          | 9, ho, hD, hpre =>
            cases (show some _ = some oo' from ho)
            have e75 := ev_nfK (hV 8 75 rfl)
            have h16 : D 16 = false := by
              cases hd : D 16 with
              | false => rfl
              | true => exact absurd (hcl 12 9 (hcl 13 12 (hcl 14 13 (hcl 16 14 hd (by kernel_rfl)) (by kernel_rfl)) (by kernel_rfl)) (by kernel_rfl)) (by rw [hD]; exact Bool.false_ne_true)
            obtain ⟨z1, z2, z3⟩ := hB h16
            have z0 := z1
            unfold CorePl.cells at z0
            refine runsTo_mono11 (Q := fun uu w2 => w2 = w1 ∧ uu = (.int .i64 (t : Int) : Value)) ?_ (fun uu w2 ⟨h1, h2⟩ => ⟨c, by subst h1; exact ⟨by simpa using hB, by simpa using hG, by simpa using h5, by simpa using h6⟩, fun _ _ _ => rfl, .inr h2⟩)
            clear hB hG h5 h6
            go_simp
            all_goals exact ⟨rfl, rfl⟩
          | 10, ho, hD, hpre =>
            cases (show some _ = some oo' from ho)
            have e3 := ev_nfK ((hO 3 (notDstK (by kernel_rfl))).trans rfl)
            have h16 : D 16 = false := by
              cases hd : D 16 with
              | false => rfl
              | true => exact absurd (hcl 11 10 (hcl 12 11 (hcl 13 12 (hcl 14 13 (hcl 16 14 hd (by kernel_rfl)) (by kernel_rfl)) (by kernel_rfl)) (by kernel_rfl)) (by kernel_rfl)) (by rw [hD]; exact Bool.false_ne_true)
            obtain ⟨z1, z2, z3⟩ := hB h16
            have z0 := z1
            unfold CorePl.cells at z0
            refine runsTo_mono11 (Q := fun uu w2 => w2 = w1 ∧ uu = (.pointer (some ⟨bx, 2, none⟩) : Value)) ?_ (fun uu w2 ⟨h1, h2⟩ => ⟨c, by subst h1; exact ⟨by simpa using hB, by simpa using hG, by simpa using h5, by simpa using h6⟩, fun _ _ _ => rfl, .inr h2⟩)
            clear hB hG h5 h6
            go_simp
            all_goals exact ⟨rfl, rfl⟩
          | 11, ho, hD, hpre =>
            cases (show some _ = some oo' from ho)
            have e77 := ev_nfK (hV 10 77 rfl)
            have h16 : D 16 = false := by
              cases hd : D 16 with
              | false => rfl
              | true => exact absurd (hcl 12 11 (hcl 13 12 (hcl 14 13 (hcl 16 14 hd (by kernel_rfl)) (by kernel_rfl)) (by kernel_rfl)) (by kernel_rfl)) (by rw [hD]; exact Bool.false_ne_true)
            obtain ⟨z1, z2, z3⟩ := hB h16
            have z0 := z1
            unfold CorePl.cells at z0
            refine runsTo_mono11 (Q := fun uu w2 => w2 = w1 ∧ uu = (.int .u64 (wt : Int) : Value)) ?_ (fun uu w2 ⟨h1, h2⟩ => ⟨c, by subst h1; exact ⟨by simpa using hB, by simpa using hG, by simpa using h5, by simpa using h6⟩, fun _ _ _ => rfl, .inr h2⟩)
            clear hB hG h5 h6
            go_simp
            all_goals exact ⟨rfl, rfl⟩
          | 12, ho, hD, hpre =>
            cases (show some _ = some oo' from ho)
            have e76 := ev_nfK (hV 9 76 rfl)
            have e78 := ev_nfK (hV 11 78 rfl)
            have h16 : D 16 = false := by
              cases hd : D 16 with
              | false => rfl
              | true => exact absurd (hcl 13 12 (hcl 14 13 (hcl 16 14 hd (by kernel_rfl)) (by kernel_rfl)) (by kernel_rfl)) (by rw [hD]; exact Bool.false_ne_true)
            obtain ⟨z1, z2, z3⟩ := hB h16
            have z0 := z1
            unfold CorePl.cells at z0
            refine runsTo_mono11 (Q := fun uu w2 => w2 = w1 ∧ uu = (.agg #[.int .i64 (t : Int), .int .u64 (wt : Int)] : Value)) ?_ (fun uu w2 ⟨h1, h2⟩ => ⟨c, by subst h1; exact ⟨by simpa using hB, by simpa using hG, by simpa using h5, by simpa using h6⟩, fun _ _ _ => rfl, .inr h2⟩)
            clear hB hG h5 h6
            go_simp
            all_goals exact ⟨rfl, rfl⟩
          | 13, ho, hD, hpre =>
            cases (show some _ = some oo' from ho)
            have e79 := ev_nfK (hV 12 79 rfl)
            have h16 : D 16 = false := by
              cases hd : D 16 with
              | false => rfl
              | true => exact absurd (hcl 14 13 (hcl 16 14 hd (by kernel_rfl)) (by kernel_rfl)) (by rw [hD]; exact Bool.false_ne_true)
            obtain ⟨z1, z2, z3⟩ := hB h16
            have z0 := z1
            unfold CorePl.cells at z0
            have n13 : D 13 = false := hD
            have n14 : D 14 = false := by
              cases hd : D 14 with
              | false => rfl
              | true => exact absurd (hcl 14 13 hd (by kernel_rfl)) (by rw [hD]; exact Bool.false_ne_true)
            obtain ⟨y1, y2⟩ := hG n14
            have h4 : Grows w1 (w1.alloc (.cells #[.int .i64 (t : Int), .int .u64 (wt : Int)] 40)) := (Grows.refl _).new _
            refine runsTo_mono11 (Q := fun uu w2 => w2 = w1.alloc (.cells #[.int .i64 (t : Int), .int .u64 (wt : Int)] 40) ∧ uu = (.slice (some ⟨w1.heap.size, 0, none⟩) 1 1 : Value)) ?_ (fun uu w2 hq => ?_)
            · clear hB hG h5 h6
              go_simp
              all_goals exact ⟨rfl, rfl⟩
            · obtain ⟨h8, h1⟩ := hq
              subst h8
              refine ⟨(w1.heap.size, c.2), ⟨fun _ => ⟨z1.grow h4, z2.grow h4, z3.grow h4⟩, fun _ => ⟨y1.trans h4, fun _ => Arr.make _ _ _⟩, fun hd => absurd hd (by simp [n14]), fun hd => absurd hd (by simp [h16])⟩, fun j _ hDj => ?_, .inr h1⟩
              · match j, hDj with
                | 0, _ => rfl
                | 1, _ => rfl
                | 2, _ => rfl
                | 3, _ => rfl
                | 4, _ => rfl
                | 5, _ => rfl
                | 6, _ => rfl
                | 7, _ => rfl
                | 8, _ => rfl
                | 9, _ => rfl
                | 10, _ => rfl
                | 11, _ => rfl
                | 12, _ => rfl
                | 13, hDj => exact absurd hDj (by rw [n13]; exact Bool.false_ne_true)
                | 14, _ => rfl
                | 15, _ => rfl
                | 16, _ => rfl
                | n + 17, _ => rfl
          | 14, ho, hD, hpre =>
            cases (show some _ = some oo' from ho)
            have e74 := ev_nfK (hV 7 74 rfl)
            have e80 := ev_nfK (hV 13 80 rfl)
            have h16 : D 16 = false := by
              cases hd : D 16 with
              | false => rfl
              | true => exact absurd (hcl 16 14 hd (by kernel_rfl)) (by rw [hD]; exact Bool.false_ne_true)
            obtain ⟨z1, z2, z3⟩ := hB h16
            have z0 := z1
            unfold CorePl.cells at z0
            have n14 : D 14 = false := hD
            have n13 : D 13 = true := hpre 13 (by kernel_rfl)
            obtain ⟨y1, y2⟩ := hG n14
            have y3 := y2 n13
            refine runsTo_mono11 (runs_appT elemArc (s := .tmp 74) (x := .tmp 80) rfl fl.length (R.cf f) (R.Af f) (its fl) ((hV 7 74 rfl).trans rfl) (HO4.out.grows y1) c.1 1 [.int .i64 (t : Int), .int .u64 (wt : Int)] ((hV 13 80 rfl).trans rfl) rfl (fun j u hu => by rw [y3.cell]; exact hu) (fun u hu => by simp at hu; rcases hu with rfl | rfl <;> rfl) (by omega)) (fun uu w5 hq => ?_)
            obtain ⟨A5, c5, h1, hown5, ht5, hA5⟩ := hq
            have hX5 := (HX4.out.grow y1).headed hf (l' := fl ++ [(t, wt)]) (by rw [its_app, List.length_append, List.length_singleton]; exact hown5) ht5 hA5
            rw [List.length_append, List.length_singleton] at hX5
            refine ⟨(c.1, A5, c5), ⟨fun _ => ⟨hX5.1.1, hX5.1.2, z3.touch ht5 (fun ⟨p, hp, e⟩ => HRX.out p hp e)⟩, fun hd => absurd hd (by simp), fun _ _ => ⟨(HT4.out.grows y1).trans (ht5.mono HSR.out), hX5.2, fun p hp => (hA5 p hp).imp id (fun h => Nat.le_trans y1.size h.1)⟩, fun hd => absurd hd (by simp [h16])⟩, fun j _ hDj => ?_, .inr h1⟩
            · match j, hDj with
              | 0, _ => rfl
              | 1, _ => rfl
              | 2, _ => rfl
              | 3, _ => rfl
              | 4, _ => rfl
              | 5, _ => rfl
              | 6, _ => rfl
              | 7, _ => rfl
              | 8, _ => rfl
              | 9, _ => rfl
              | 10, _ => rfl
              | 11, _ => rfl
              | 12, _ => rfl
              | 13, _ => rfl
              | 14, hDj => exact absurd hDj (by rw [n14]; exact Bool.false_ne_true)
              | 15, _ => rfl
              | 16, _ => rfl
              | n + 17, _ => rfl
          | 15, ho, hD, hpre =>
            cases (show some _ = some oo' from ho)
            have e71 := ev_nfK (hV 4 71 rfl)
            have e73 := ev_nfK (hV 6 73 rfl)
            have h16 : D 16 = false := by
              cases hd : D 16 with
              | false => rfl
              | true => exact absurd (hcl 16 15 hd (by kernel_rfl)) (by rw [hD]; exact Bool.false_ne_true)
            obtain ⟨z1, z2, z3⟩ := hB h16
            have z0 := z1
            unfold CorePl.cells at z0
            refine runsTo_mono11 (Q := fun uu w2 => w2 = w1 ∧ uu = (.pointer (some ⟨P.go, f, none⟩) : Value)) ?_ (fun uu w2 ⟨h1, h2⟩ => ⟨c, by subst h1; exact ⟨by simpa using hB, by simpa using hG, by simpa using h5, by simpa using h6⟩, fun _ _ _ => rfl, .inr h2⟩)
            clear hB hG h5 h6
            go_simp
            all_goals exact ⟨rfl, rfl⟩
          | 16, ho, hD, hpre =>
            cases (show some _ = some oo' from ho)
            have e82 := ev_nfK (hV 15 82 rfl)
            have e81 := ev_nfK (hV 14 81 rfl)
            have h16 : D 16 = false := hD
            obtain ⟨z1, z2, z3⟩ := hB h16
            have z0 := z1
            unfold CorePl.cells at z0
            obtain ⟨y1, y2, y3⟩ := h5 (hpre 14 (by kernel_rfl)) h16
            have m5 : Mine w1 ⟨P.go, f, none⟩ (R.hdr f) := z2.mine f (by rw [List.getElem?_map, List.getElem?_range hf]; rfl)
            refine runsTo_mono11 (Q := fun uu w2 => w2 = w1.setCell ⟨P.go, f, none⟩ (.slice c.2.1 (fl.length + 1) c.2.2)) ?_ (fun uu w2 h1 => ⟨c, by subst h1; exact ⟨fun hd => absurd hd (by simp), fun hd => absurd hd (by simp [hpre 14 (by kernel_rfl)]), fun _ hd => absurd hd (by simp), fun _ => ⟨y1.set (.inl (HS.out _ (.inr (.inl rfl)))) _, y2, y3⟩⟩, fun _ _ _ => rfl, .inl rfl⟩)
            clear hB hG h5 h6
            go_simp
            all_goals rfl
          | n + 17, ho, hD, hpre => cases ho
      case he =>
        subst hVV
        intro cc wz hM
        obtain ⟨_, _, _, h6⟩ := hM
        obtain ⟨y1, y2, y3⟩ := h6 rfl
        have hbz := y2.bl_lt
        first | go_end0 | (rw [Exit.noGoto_normal]; go_end0)
        refine ⟨rfl, ?_, y1⟩
        rw [HCA.out]
        refine ⟨CoreRw.put ⟨A2, c2, R.Af, R.cf, R.ln⟩ f cc.2.1 cc.2.2 (fl.length + 1), ?_, fun k hk => ?_⟩
        · show CoreX wz P _ _ _ (c0.S ++ [_]).length (c0.S ++ [_]).length (c0.S ++ [_])
          rw [List.length_append, List.length_singleton]
          exact y2.any _
        · have hkl := hbz k hk
          rcases hk with hk | hk | hk | hk | hk | ⟨p, hp, rfl⟩ | ⟨x, hx, p, hp, rfl⟩
          · exact .inl (HS.out _ (.inl hk))
          · exact .inl (HS.out _ (.inr (.inl hk)))
          · exact .inl (HS.out _ (.inr (.inr (.inl hk))))
          · exact .inl (HS.out _ (.inr (.inr (.inr (.inl hk)))))
          · exact .inl (HS.out _ (.inr (.inr (.inr (.inr (.inl hk))))))
          · rcases HA2.out p hp with h | h
            · exact .inl (HSB.out _ h)
            · exact .inr ⟨Nat.le_trans hw1s h, hkl⟩
          · have hp' : (if x = f then cc.2.1 else R.Af x) = some p := hp
            by_cases e : x = f
            · rw [if_pos e] at hp'
              rcases y3 p hp' with h | h
              · exact .inl (HSR.out _ h)
              · exact .inr ⟨Nat.le_trans hw4s h, hkl⟩
            · rw [if_neg e] at hp'
              exact .inl (HS.out _ (.inr (.inr (.inr (.inr (.inr (.inr ⟨x, hx, p, hp', rfl⟩)))))))
  | some i =>
    obtain ⟨hi, hfi, hti⟩ := HIN.out.at_in _ _ _ hq
    rw [hq] at hlk
    simp only [Option.map_some, Option.getD_some, Option.isSome_some] at hlk
    obtain ⟨g, cur, hAs, -⟩ := HX.out.list.at_ (by omega)
    have hcw := Holds.mk (HX.out.list.cell hAs ((hss_at c.S i 2 hi (by omega)).trans rfl))
    have hcw1 := Holds.mk (y1.grows.keeps hcw.cell)
    clear hcw
    have hasd : c.has f t wt = decide ((gs c.S i).w ≤ wt) := by unfold Ctr.has; rw [hq]
    rw [hAs] at hcore1
    generalize (gs c.S i).w = wi at *
    by_cases hle : wi ≤ wt
    · have hd : decide ((wi : Int) ≤ (wt : Int)) = true := decide_eq_true (by omega)
      have HCA := hide (HC.out (by rw [hasd]; exact decide_eq_true hle))
      clear HC HC2 HA3
      go_upto_region 2 with fail
      ((first | refine wp_region_gen (by kernel_rfl) (by kernel_rfl) ?_); (repeat' (first | (refine gLex_val0 rfl (by kernel_rfl) (fun K hK => ?_); (go_simp; (try (simp only [↓IntWalk.iteOmega]; try go_simp)); (try simp (disch := omega) only [IntWalk.i64_in]); (try simp (disch := omega) only [IntWalk.u64_in]); first | (refine hK _ ?_; clear hK K) | (apply Exists.intro; refine ⟨fun x => ?_, hK _ ?_⟩; (first | fail); clear hK K))) | (refine gLex_undef rfl rfl rfl (by kernel_rfl) (fun K hK => ?_); go_simp; refine hK _ ?_; clear hK K) | (refine gLex_ask rfl rfl rfl ?_; first | (apply gAsk_yes; kernel_rfl; intro K hK; (go_simp; (try (simp only [↓IntWalk.iteOmega]; try go_simp)); (try simp (disch := omega) only [IntWalk.i64_in]); (try simp (disch := omega) only [IntWalk.u64_in]); first | (refine hK _ ?_; clear hK K) | (apply Exists.intro; refine ⟨fun x => ?_, hK _ ?_⟩; (first | fail); clear hK K))) | ((first | apply gAsk_no1 | apply gAsk_no2); kernel_rfl; intro K hK; simp [go_sem]; refine hK _ ?_; clear hK K) | (apply gAsk_part; kernel_rfl; all_goals (intro h K hK; (try simp only [Bool.not_true] at h); (try simp only [Bool.not_false] at h); (try simp only [decide_eq_true_eq] at h); (try simp only [decide_eq_false_iff_not] at h); first | (exfalso; first | contradiction | omega) | (go_simp; (try (simp only [↓IntWalk.iteOmega]; try go_simp)); (try simp (disch := omega) only [IntWalk.i64_in]); (try simp (disch := omega) only [IntWalk.u64_in]); first | (refine hK _ ?_; clear hK K) | (apply Exists.intro; refine ⟨fun x => ?_, hK _ ?_⟩; (first | fail); clear hK K))))))); all_goals ((apply gLex_end); intro x2))
      go_upto_region 3 with fail
      ((first | refine wp_region_gen (by kernel_rfl) (by kernel_rfl) ?_); (repeat' (first | (refine gLex_val0 rfl (by kernel_rfl) (fun K hK => ?_); (go_simp; (try (simp only [↓IntWalk.iteOmega]; try go_simp)); (try simp (disch := omega) only [IntWalk.i64_in]); (try simp (disch := omega) only [IntWalk.u64_in]); first | (refine hK _ ?_; clear hK K) | (apply Exists.intro; refine ⟨fun x => ?_, hK _ ?_⟩; (first | fail); clear hK K))) | (refine gLex_undef rfl rfl rfl (by kernel_rfl) (fun K hK => ?_); go_simp; refine hK _ ?_; clear hK K) | (refine gLex_ask rfl rfl rfl ?_; first | (apply gAsk_yes; kernel_rfl; intro K hK; (go_simp; (try (simp only [↓IntWalk.iteOmega]; try go_simp)); (try simp (disch := omega) only [IntWalk.i64_in]); (try simp (disch := omega) only [IntWalk.u64_in]); first | (refine hK _ ?_; clear hK K) | (apply Exists.intro; refine ⟨fun x => ?_, hK _ ?_⟩; (first | fail); clear hK K))) | ((first | apply gAsk_no1 | apply gAsk_no2); kernel_rfl; intro K hK; simp [go_sem]; refine hK _ ?_; clear hK K) | (apply gAsk_part; kernel_rfl; all_goals (intro h K hK; (try simp only [Bool.not_true] at h); (try simp only [Bool.not_false] at h); (try simp only [decide_eq_true_eq] at h); (try simp only [decide_eq_false_iff_not] at h); first | (exfalso; first | contradiction | omega) | (go_simp; (try (simp only [↓IntWalk.iteOmega]; try go_simp)); (try simp (disch := omega) only [IntWalk.i64_in]); (try simp (disch := omega) only [IntWalk.u64_in]); first | (refine hK _ ?_; clear hK K) | (apply Exists.intro; refine ⟨fun x => ?_, hK _ ?_⟩; (first | fail); clear hK K))))))); all_goals ((apply gLex_end); intro x3))
      go_wp2_with fail
      refine bodyPost_ret (results_none rfl _ _ _) rfl ?_
      rw [HCA.out]
      exact ⟨rfl, (HA0.out.grow GG).mono (fun k hk => .inl hk), Grows.touch (w := w) GG S⟩
    · have hd : decide ((wi : Int) ≤ (wt : Int)) = false := decide_eq_false (by omega)
      have hno : ¬ c.has f t wt = true := by rw [hasd]; simpa using hle
      have HCA := hide (HC2.out hno)
      clear HC HC2 HA3 HA0 hno
      go_upto_region 2 with fail
      ((first | refine wp_region_gen (by kernel_rfl) (by kernel_rfl) ?_); (repeat' (first | (refine gLex_val0 rfl (by kernel_rfl) (fun K hK => ?_); (go_simp; (try (simp only [↓IntWalk.iteOmega]; try go_simp)); (try simp (disch := omega) only [IntWalk.i64_in]); (try simp (disch := omega) only [IntWalk.u64_in]); first | (refine hK _ ?_; clear hK K) | (apply Exists.intro; refine ⟨fun x => ?_, hK _ ?_⟩; (first | fail); clear hK K))) | (refine gLex_undef rfl rfl rfl (by kernel_rfl) (fun K hK => ?_); go_simp; refine hK _ ?_; clear hK K) | (refine gLex_ask rfl rfl rfl ?_; first | (apply gAsk_yes; kernel_rfl; intro K hK; (go_simp; (try (simp only [↓IntWalk.iteOmega]; try go_simp)); (try simp (disch := omega) only [IntWalk.i64_in]); (try simp (disch := omega) only [IntWalk.u64_in]); first | (refine hK _ ?_; clear hK K) | (apply Exists.intro; refine ⟨fun x => ?_, hK _ ?_⟩; (first | fail); clear hK K))) | ((first | apply gAsk_no1 | apply gAsk_no2); kernel_rfl; intro K hK; simp [go_sem]; refine hK _ ?_; clear hK K) | (apply gAsk_part; kernel_rfl; all_goals (intro h K hK; (try simp only [Bool.not_true] at h); (try simp only [Bool.not_false] at h); (try simp only [decide_eq_true_eq] at h); (try simp only [decide_eq_false_iff_not] at h); first | (exfalso; first | contradiction | omega) | (go_simp; (try (simp only [↓IntWalk.iteOmega]; try go_simp)); (try simp (disch := omega) only [IntWalk.i64_in]); (try simp (disch := omega) only [IntWalk.u64_in]); first | (refine hK _ ?_; clear hK K) | (apply Exists.intro; refine ⟨fun x => ?_, hK _ ?_⟩; (first | fail); clear hK K))))))); all_goals ((apply gLex_end); intro x2))
      go_upto_region 3 with fail
      ((first | refine wp_region_gen (by kernel_rfl) (by kernel_rfl) ?_); (repeat' (first | (refine gLex_val0 rfl (by kernel_rfl) (fun K hK => ?_); (go_simp; (try (simp only [↓IntWalk.iteOmega]; try go_simp)); (try simp (disch := omega) only [IntWalk.i64_in]); (try simp (disch := omega) only [IntWalk.u64_in]); first | (refine hK _ ?_; clear hK K) | (apply Exists.intro; refine ⟨fun x => ?_, hK _ ?_⟩; (first | fail); clear hK K))) | (refine gLex_undef rfl rfl rfl (by kernel_rfl) (fun K hK => ?_); go_simp; refine hK _ ?_; clear hK K) | (refine gLex_ask rfl rfl rfl ?_; first | (apply gAsk_yes; kernel_rfl; intro K hK; (go_simp; (try (simp only [↓IntWalk.iteOmega]; try go_simp)); (try simp (disch := omega) only [IntWalk.i64_in]); (try simp (disch := omega) only [IntWalk.u64_in]); first | (refine hK _ ?_; clear hK K) | (apply Exists.intro; refine ⟨fun x => ?_, hK _ ?_⟩; (first | fail); clear hK K))) | ((first | apply gAsk_no1 | apply gAsk_no2); kernel_rfl; intro K hK; simp [go_sem]; refine hK _ ?_; clear hK K) | (apply gAsk_part; kernel_rfl; all_goals (intro h K hK; (try simp only [Bool.not_true] at h); (try simp only [Bool.not_false] at h); (try simp only [decide_eq_true_eq] at h); (try simp only [decide_eq_false_iff_not] at h); first | (exfalso; first | contradiction | omega) | (go_simp; (try (simp only [↓IntWalk.iteOmega]; try go_simp)); (try simp (disch := omega) only [IntWalk.i64_in]); (try simp (disch := omega) only [IntWalk.u64_in]); first | (refine hK _ ?_; clear hK K) | (apply Exists.intro; refine ⟨fun x => ?_, hK _ ?_⟩; (first | fail); clear hK K))))))); all_goals ((apply gLex_end); intro x3))
      go_upto_region 4 with fail
      rw [← hAs] at hcore1
      clear hAs hcw1 hasd hle hd
      (refine wp_region_tail1 10 (by kernel_rfl) (by kernel_rfl) ?_; simp only [List.take_succ_cons, List.take_zero, List.drop_succ_cons, List.drop_zero]; (repeat' (first | (refine gLex_val0 rfl (by kernel_rfl) (fun K hK => ?_); (go_simp; (try (simp only [↓IntWalk.iteOmega]; try go_simp)); (try simp (disch := omega) only [IntWalk.i64_in]); (try simp (disch := omega) only [IntWalk.u64_in]); first | (refine hK _ ?_; clear hK K) | (apply Exists.intro; refine ⟨fun x => ?_, hK _ ?_⟩; (first | fail); clear hK K))) | (refine gLex_undef rfl rfl rfl (by kernel_rfl) (fun K hK => ?_); go_simp; refine hK _ ?_; clear hK K) | (refine gLex_ask rfl rfl rfl ?_; first | (apply gAsk_yes; kernel_rfl; intro K hK; (go_simp; (try (simp only [↓IntWalk.iteOmega]; try go_simp)); (try simp (disch := omega) only [IntWalk.i64_in]); (try simp (disch := omega) only [IntWalk.u64_in]); first | (refine hK _ ?_; clear hK K) | (apply Exists.intro; refine ⟨fun x => ?_, hK _ ?_⟩; (first | fail); clear hK K))) | ((first | apply gAsk_no1 | apply gAsk_no2); kernel_rfl; intro K hK; simp [go_sem]; refine hK _ ?_; clear hK K)))); refine gLex_endT (fun x => ?_))
      go_wp2_with (at_mapUpdate; refine wp_mapPutV rfl _ _ _ rfl P.bm c.S.length (mpC c.at_) rfl (HBM.out.grow GG) (by unfold maxLen; omega) _ _ _ rfl rfl wf wt' wl ?_; intro w1 hmap1 ht1)
      rw [mpC_put] at hmap1
      have hX1 := (HX.out.grow (show Grows w _ from GG)).mapped hmap1 ht1
      have ax1 := (ax.grow (show Grows y1.now _ from GG)).touch ht1 (by rw [HBX.out]; omega)
      have HT1 := hide ((Grows.touch (show Grows w _ from GG) S).trans (ht1.mono (fun k hk => HS.out k (.inr (.inr (.inr (.inl hk)))))))
      clear ax ak hcore1 hmap1 ht1 hlk
      have hc1 := hX1.core
      unfold CorePl.cells at hc1
      have HX1 := hide hX1
      clear hX1
      have hL1 := hide hc1
      have hw1s : w.heap.size ≤ w1.heap.size := HT1.out.size
      have hxb : P.b < w.heap.size := HCO.out.lt
      have hbxb : P.b ≠ bx := by rw [HBX.out]; omega
      have hAx : ∀ p, R.As = some p → p.block ≠ bx := fun p hp e => by
        have := HSS.out _ (HS.out _ (.inr (.inr (.inr (.inr (.inr (.inl ⟨p, hp, rfl⟩)))))))
        rw [HBX.out] at e
        omega
      have HAX := hide hAx
      have HSB := hide (show ∀ k, RowB R.As k → S k from fun k hk => HS.out k (.inr (.inr (.inr (.inr (.inr (.inl hk)))))))
      go_wp2_with fail
      go_region_law (refine step_appT elemSc rfl _ _ rfl (RowB R.As) _ R.cs R.As _ rfl (HX1.out.list.grows GG) (fun p hp => ⟨p, hp, rfl⟩) _ _ (hsCells ⟨f, t, wt, ee, a2, b2⟩) rfl rfl (fun j u hu => by
        match j, hu with
        | 0, hu => simp [hsCells] at hu; subst hu; simp [go_sem]
        | 1, hu => simp [hsCells] at hu; subst hu; simp [go_sem]
        | 2, hu => simp [hsCells] at hu; subst hu; simp [go_sem]
        | 3, hu => simp [hsCells] at hu; subst hu; simp [go_sem]
        | 4, hu => simp [hsCells] at hu; subst hu; simp [go_sem]
        | 5, hu => simp [hsCells] at hu; subst hu; simp [go_sem]) (fun u hu => by simp [hsCells] at hu; rcases hu with rfl | rfl | rfl | rfl | rfl | rfl <;> rfl) (by omega) ?_; intro A2 c2 w2 hown2 ht2 hA2; rw [← hss_app] at hown2; have hX2 := (HX1.out.grow (show Grows w1 _ from GG)).listed (nl' := c.S.length + 1) (L' := c.S ++ [⟨f, t, wt, ee, a2, b2⟩]) (by rw [List.length_append, List.length_singleton]; exact hown2) ht2; have hc2 := hX2.1; unfold CorePl.cells at hc2; have ax2 := (ax1.grow (show Grows w1 _ from GG)).touch ht2 (fun ⟨p, hp, e⟩ => HAX.out p hp e); have HT2 := hide ((Grows.touch (show Grows w1 _ from GG) S).trans (ht2.mono HSB.out)); have HX2 := hide hX2.2; have HA2 := hide (fun p hp => ((hA2 p hp).imp id (fun h => Nat.le_trans (show Grows w1 _ from GG).size h.1) : RowB R.As p.block ∨ w1.heap.size ≤ p.block)); clear hX2 hown2 ht2 hA2)
      all_goals
        have ax3 := ax2.other (p := ⟨P.b, 3, none⟩) hbxb (.slice A2 (c.S.length + 1) c2)
        have HT3 := hide (((HT1.out.trans HT2.out)).set (p := ⟨P.b, 3, none⟩) (.inl (HS.out _ (.inl rfl))) (.slice A2 (c.S.length + 1) c2))
        clear HT1 HT2 hc2 ax2 ax1 hc1 hL1 HX1
        generalize w2.setCell ⟨P.b, 3, none⟩ (.slice A2 (c.S.length + 1) c2) = w3 at *
        have hc3 := HX2.out.core
        unfold CorePl.cells at hc3
        obtain ⟨hln, hor⟩ := HX2.out.rows f hf trivial
        have m3 : Mine w3 ⟨P.go, f, none⟩ (.slice (R.Af f) (ga c.O f).length (R.cf f)) := HX2.out.out.mine f (by
          rw [List.getElem?_map, List.getElem?_range hf]
          show some (Value.slice (R.Af f) (R.ln f) (R.cf f)) = _
          rw [show R.ln f = (ga c.O f).length from hln])
        have hrx : ∀ p, R.Af f = some p → p.block ≠ bx := fun p hp => HX2.out.row_arr hf hp ax3 (by decide)
        have HRX := hide hrx
        have HSR := hide (show ∀ k, RowB (R.Af f) k → S k from fun k hk => HS.out k (.inr (.inr (.inr (.inr (.inr (.inr ⟨f, hf, hk⟩)))))))
        have HK := hide (fun args W => run_callGo (P := Try.prog) Try.func145 (by kernel_rfl) (by kernel_rfl) args W)
        have CDEL := hide (fun (W : World) (hg : Grows w3 W) => delFuncA W (R.Af f) (R.cf f) (ga c.O f) 145 #[.pointer (some ⟨bx, 0, none⟩)] (fun a => decide (a.1 = t)) (hor.grows hg) (by omega) HK.out (fun W2 ht2 e _ => coAdd1 W2 e ⟨f, t, wt, ee, a2, b2⟩ bx ((ax3.grow hg).touch ht2 (fun ⟨p, hp, e⟩ => HRX.out p hp e))))
        have hfl : ((ga c.O f).filter (fun x => !decide (x.1 = t))).length ≤ 100000 := Nat.le_trans (List.length_filter_le _ _) hrow
        have HF := hide (show (ga c.O f).filter (fun x => !decide (x.1 = t)) = _ from rfl)
        clear hor hln hrx
        go_upto_region 6 with fail
        (refine wp_region_tail1 10 (by kernel_rfl) (by kernel_rfl) ?_; simp only [List.take_succ_cons, List.take_zero, List.drop_succ_cons, List.drop_zero]; (repeat' (first | (refine gLex_val0 rfl (by kernel_rfl) (fun K hK => ?_); (go_simp; (try (simp only [↓IntWalk.iteOmega]; try go_simp)); (try simp (disch := omega) only [IntWalk.i64_in]); (try simp (disch := omega) only [IntWalk.u64_in]); first | (refine hK _ ?_; clear hK K) | (apply Exists.intro; refine ⟨fun x => ?_, hK _ ?_⟩; (first | fail); clear hK K))) | (refine gLex_undef rfl rfl rfl (by kernel_rfl) (fun K hK => ?_); go_simp; refine hK _ ?_; clear hK K) | (refine gLex_ask rfl rfl rfl ?_; first | (apply gAsk_yes; kernel_rfl; intro K hK; (go_simp; (try (simp only [↓IntWalk.iteOmega]; try go_simp)); (try simp (disch := omega) only [IntWalk.i64_in]); (try simp (disch := omega) only [IntWalk.u64_in]); first | (refine hK _ ?_; clear hK K) | (apply Exists.intro; refine ⟨fun x => ?_, hK _ ?_⟩; (first | fail); clear hK K))) | ((first | apply gAsk_no1 | apply gAsk_no2); kernel_rfl; intro K hK; simp [go_sem]; refine hK _ ?_; clear hK K)))); refine gLex_endT (fun x => ?_))
        go_upto_region 7 with (go_at_call 144; refine (CDEL.out _ GG).mono ?_; rintro e w4 ⟨ht4, rfl, ho4⟩; have HX4 := hide ((HX2.out.grow (show Grows w3 _ from GG)).turned hf ht4 (fun p hp => by rw [hp] at ho4; exact ho4.cells_)); have ax4 := (ax3.grow (show Grows w3 _ from GG)).touch ht4 (fun ⟨p, hp, e⟩ => HRX.out p hp e); have HT4 := hide ((HT3.out.grows (show Grows w3 _ from GG)).trans (ht4.mono HSR.out)); have HO4 := hide ho4; clear ht4 ho4)
        generalize (ga c.O f).filter (fun x => !decide (x.1 = t)) = fl at *
        have hw4s : w.heap.size ≤ w4.heap.size := HT4.out.size
        clear hc3 m3 ax3 HT3 HX2 CDEL HK HF
        obtain ⟨c0, hc0⟩ : ∃ d, d = c := ⟨_, rfl⟩
        rw [← hc0] at HX4 HCA
        go_wp2_with fail
        obtain ⟨VV, hVV⟩ : ∃ V : Nat × Option Addr × Nat → Nat → Value, V = fun c j => ([.pointer (some ⟨P.b, 0, none⟩), .pointer (some ⟨P.b, 0, none⟩), .pointer (some ⟨P.b, 0, none⟩), .pointer (some ⟨P.b, 0, none⟩), .slice (some ⟨P.go, 0, none⟩) P.N P.N, .pointer (some ⟨bx, 0, none⟩), .int .i64 (f : Int), .slice (R.Af f) fl.length (R.cf f), .pointer (some ⟨bx, 1, none⟩), .int .i64 (t : Int), .pointer (some ⟨bx, 2, none⟩), .int .u64 (wt : Int), .agg #[.int .i64 (t : Int), .int .u64 (wt : Int)], .slice (some ⟨c.1, 0, none⟩) 1 1, .slice c.2.1 (fl.length + 1) c.2.2, .pointer (some ⟨P.go, f, none⟩), undef] : List Value).getD j undef := ⟨_, rfl⟩
        refine wp_region_some (by kernel_rfl) (by kernel_rfl) (by kernel_rfl) (by kernel_rfl) (by kernel_rfl) VV
          (fun c D w1 => (D 16 = false → Arr w1 P.b 150 (P.cells ⟨A2, c2, R.Af, R.cf, R.ln⟩ (c0.S.length + 1)) ∧ Arr w1 P.go 28 ((List.range P.N).map (CoreRw.hdr ⟨A2, c2, R.Af, R.cf, R.ln⟩)) ∧ Arr w1 bx 95 [.int .i64 (f : Int), .int .i64 (t : Int), .int .u64 (wt : Int), .int .i64 ee, .int .i64 a2, .int .i64 b2]) ∧
            (D 14 = false → Grows w4 w1 ∧ (D 13 = true → Arr w1 c.1 40 [.int .i64 (t : Int), .int .u64 (wt : Int)])) ∧
            (D 14 = true → D 16 = false → Touch S w w1 ∧ CoreX (w1.setCell ⟨P.go, f, none⟩ (.slice c.2.1 (fl.length + 1) c.2.2)) P (CoreRw.put ⟨A2, c2, R.Af, R.cf, R.ln⟩ f c.2.1 c.2.2 (fl.length + 1)) (fun _ => True) ⟨c0.O.set f (fl ++ [(t, wt)]), c0.G, fun p q => if p = f ∧ q = t then some c0.S.length else c0.at_ p q, c0.S, c0.D⟩ (c0.S.length + 1) (c0.S.length + 1) (c0.S ++ [⟨f, t, wt, ee, a2, b2⟩]) ∧ ∀ p, c.2.1 = some p → RowB (R.Af f) p.block ∨ w4.heap.size ≤ p.block) ∧
            (D 16 = true → Touch S w w1 ∧ CoreX w1 P (CoreRw.put ⟨A2, c2, R.Af, R.cf, R.ln⟩ f c.2.1 c.2.2 (fl.length + 1)) (fun _ => True) ⟨c0.O.set f (fl ++ [(t, wt)]), c0.G, fun p q => if p = f ∧ q = t then some c0.S.length else c0.at_ p q, c0.S, c0.D⟩ (c0.S.length + 1) (c0.S.length + 1) (c0.S ++ [⟨f, t, wt, ee, a2, b2⟩]) ∧ ∀ p, c.2.1 = some p → RowB (R.Af f) p.block ∨ w4.heap.size ≤ p.block))
          (0, none, 0) ⟨fun _ => ⟨HX4.out.core.grow (Grows.refl _).drew, HX4.out.out.grow (Grows.refl _).drew, ax4.grow (Grows.refl _).drew⟩, fun _ => ⟨(Grows.refl _).drew, fun h => absurd h (by simp)⟩, fun h => absurd h (by simp), fun h => absurd h (by simp)⟩ ?hs ?he
        case hs =>
          subst hVV
          intro c a hV hO i oo' ho D hcl hD hpre w1 hM
          obtain ⟨hB, hG, h5, h6⟩ := hM
          match i, ho, hD, hpre with
            | 0, ho, hD, hpre =>
              cases (show some _ = some oo' from ho)
              have e0 := ev_nfK ((hO 0 (notDstK (by kernel_rfl))).trans rfl)
              have h16 : D 16 = false := by
                cases hd : D 16 with
                | false => rfl
                | true => exact absurd (hcl 1 0 (hcl 2 1 (hcl 3 2 (hcl 4 3 (hcl 15 4 (hcl 16 15 hd (by kernel_rfl)) (by kernel_rfl)) (by kernel_rfl)) (by kernel_rfl)) (by kernel_rfl)) (by kernel_rfl)) (by rw [hD]; exact Bool.false_ne_true)
              obtain ⟨z1, z2, z3⟩ := hB h16
              have z0 := z1
              unfold CorePl.cells at z0
              refine runsTo_mono11 (Q := fun uu w2 => w2 = w1 ∧ uu = (.pointer (some ⟨P.b, 0, none⟩) : Value)) ?_ (fun uu w2 ⟨h1, h2⟩ => ⟨c, by subst h1; exact ⟨by simpa using hB, by simpa using hG, by simpa using h5, by simpa using h6⟩, fun _ _ _ => rfl, .inr h2⟩)
              clear hB hG h5 h6
              go_simp
              all_goals exact ⟨rfl, rfl⟩
            | 1, ho, hD, hpre =>
              cases (show some _ = some oo' from ho)
              have e67 := ev_nfK (hV 0 67 rfl)
              have h16 : D 16 = false := by
                cases hd : D 16 with
                | false => rfl
                | true => exact absurd (hcl 2 1 (hcl 3 2 (hcl 4 3 (hcl 15 4 (hcl 16 15 hd (by kernel_rfl)) (by kernel_rfl)) (by kernel_rfl)) (by kernel_rfl)) (by kernel_rfl)) (by rw [hD]; exact Bool.false_ne_true)
              obtain ⟨z1, z2, z3⟩ := hB h16
              have z0 := z1
              unfold CorePl.cells at z0
              refine runsTo_mono11 (Q := fun uu w2 => w2 = w1 ∧ uu = (.pointer (some ⟨P.b, 0, none⟩) : Value)) ?_ (fun uu w2 ⟨h1, h2⟩ => ⟨c, by subst h1; exact ⟨by simpa using hB, by simpa using hG, by simpa using h5, by simpa using h6⟩, fun _ _ _ => rfl, .inr h2⟩)
              clear hB hG h5 h6
              go_simp
              all_goals exact ⟨rfl, rfl⟩
            | 2, ho, hD, hpre =>
              cases (show some _ = some oo' from ho)
              have e68 := ev_nfK (hV 1 68 rfl)
              have h16 : D 16 = false := by
                cases hd : D 16 with
                | false => rfl
                | true => exact absurd (hcl 3 2 (hcl 4 3 (hcl 15 4 (hcl 16 15 hd (by kernel_rfl)) (by kernel_rfl)) (by kernel_rfl)) (by kernel_rfl)) (by rw [hD]; exact Bool.false_ne_true)
              obtain ⟨z1, z2, z3⟩ := hB h16
              have z0 := z1
              unfold CorePl.cells at z0
              refine runsTo_mono11 (Q := fun uu w2 => w2 = w1 ∧ uu = (.pointer (some ⟨P.b, 0, none⟩) : Value)) ?_ (fun uu w2 ⟨h1, h2⟩ => ⟨c, by subst h1; exact ⟨by simpa using hB, by simpa using hG, by simpa using h5, by simpa using h6⟩, fun _ _ _ => rfl, .inr h2⟩)
              clear hB hG h5 h6
              go_simp
              all_goals exact ⟨rfl, rfl⟩
            | 3, ho, hD, hpre =>
              cases (show some _ = some oo' from ho)
              have e69 := ev_nfK (hV 2 69 rfl)
              have h16 : D 16 = false := by
                cases hd : D 16 with
                | false => rfl
                | true => exact absurd (hcl 4 3 (hcl 15 4 (hcl 16 15 hd (by kernel_rfl)) (by kernel_rfl)) (by kernel_rfl)) (by rw [hD]; exact Bool.false_ne_true)
              obtain ⟨z1, z2, z3⟩ := hB h16
              have z0 := z1
              unfold CorePl.cells at z0
              refine runsTo_mono11 (Q := fun uu w2 => w2 = w1 ∧ uu = (.pointer (some ⟨P.b, 0, none⟩) : Value)) ?_ (fun uu w2 ⟨h1, h2⟩ => ⟨c, by subst h1; exact ⟨by simpa using hB, by simpa using hG, by simpa using h5, by simpa using h6⟩, fun _ _ _ => rfl, .inr h2⟩)
              clear hB hG h5 h6
              go_simp
              all_goals exact ⟨rfl, rfl⟩
            | 4, ho, hD, hpre =>
              cases (show some _ = some oo' from ho)
              have e70 := ev_nfK (hV 3 70 rfl)
              have h16 : D 16 = false := by
                cases hd : D 16 with
                | false => rfl
                | true => exact absurd (hcl 15 4 (hcl 16 15 hd (by kernel_rfl)) (by kernel_rfl)) (by rw [hD]; exact Bool.false_ne_true)
              obtain ⟨z1, z2, z3⟩ := hB h16
              have z0 := z1
              unfold CorePl.cells at z0
              refine runsTo_mono11 (Q := fun uu w2 => w2 = w1 ∧ uu = (.slice (some ⟨P.go, 0, none⟩) P.N P.N : Value)) ?_ (fun uu w2 ⟨h1, h2⟩ => ⟨c, by subst h1; exact ⟨by simpa using hB, by simpa using hG, by simpa using h5, by simpa using h6⟩, fun _ _ _ => rfl, .inr h2⟩)
              clear hB hG h5 h6
              go_simp
              all_goals exact ⟨rfl, rfl⟩
            | 5, ho, hD, hpre =>
              cases (show some _ = some oo' from ho)
              have e3 := ev_nfK ((hO 3 (notDstK (by kernel_rfl))).trans rfl)
              have h16 : D 16 = false := by
                cases hd : D 16 with
                | false => rfl
                | true => exact absurd (hcl 6 5 (hcl 15 6 (hcl 16 15 hd (by kernel_rfl)) (by kernel_rfl)) (by kernel_rfl)) (by rw [hD]; exact Bool.false_ne_true)
              obtain ⟨z1, z2, z3⟩ := hB h16
              have z0 := z1
              unfold CorePl.cells at z0
              refine runsTo_mono11 (Q := fun uu w2 => w2 = w1 ∧ uu = (.pointer (some ⟨bx, 0, none⟩) : Value)) ?_ (fun uu w2 ⟨h1, h2⟩ => ⟨c, by subst h1; exact ⟨by simpa using hB, by simpa using hG, by simpa using h5, by simpa using h6⟩, fun _ _ _ => rfl, .inr h2⟩)
              clear hB hG h5 h6
              go_simp
              all_goals exact ⟨rfl, rfl⟩
            | 6, ho, hD, hpre =>
              cases (show some _ = some oo' from ho)
              have e72 := ev_nfK (hV 5 72 rfl)
              have h16 : D 16 = false := by
                cases hd : D 16 with
                | false => rfl
                | true => exact absurd (hcl 15 6 (hcl 16 15 hd (by kernel_rfl)) (by kernel_rfl)) (by rw [hD]; exact Bool.false_ne_true)
              obtain ⟨z1, z2, z3⟩ := hB h16
              have z0 := z1
              unfold CorePl.cells at z0
              refine runsTo_mono11 (Q := fun uu w2 => w2 = w1 ∧ uu = (.int .i64 (f : Int) : Value)) ?_ (fun uu w2 ⟨h1, h2⟩ => ⟨c, by subst h1; exact ⟨by simpa using hB, by simpa using hG, by simpa using h5, by simpa using h6⟩, fun _ _ _ => rfl, .inr h2⟩)
              clear hB hG h5 h6
              go_simp
              all_goals exact ⟨rfl, rfl⟩
            | 7, ho, hD, hpre =>
              cases (show some _ = some oo' from ho)
              have e7 := ev_nfK ((hO 7 (notDstK (by kernel_rfl))).trans rfl)
              have h16 : D 16 = false := by
                cases hd : D 16 with
                | false => rfl
                | true => exact absurd (hcl 14 7 (hcl 16 14 hd (by kernel_rfl)) (by kernel_rfl)) (by rw [hD]; exact Bool.false_ne_true)
              obtain ⟨z1, z2, z3⟩ := hB h16
              have z0 := z1
              unfold CorePl.cells at z0
              refine runsTo_mono11 (Q := fun uu w2 => w2 = w1 ∧ uu = (.slice (R.Af f) fl.length (R.cf f) : Value)) ?_ (fun uu w2 ⟨h1, h2⟩ => ⟨c, by subst h1; exact ⟨by simpa using hB, by simpa using hG, by simpa using h5, by simpa using h6⟩, fun _ _ _ => rfl, .inr h2⟩)
              clear hB hG h5 h6
              go_simp
              all_goals exact ⟨rfl, rfl⟩
            | 8, ho, hD, hpre =>
              cases (show some _ = some oo' from ho)
              have e3 := ev_nfK ((hO 3 (notDstK (by kernel_rfl))).trans rfl)
              have h16 : D 16 = false := by
                cases hd : D 16 with
                | false => rfl
                | true => exact absurd (hcl 9 8 (hcl 12 9 (hcl 13 12 (hcl 14 13 (hcl 16 14 hd (by kernel_rfl)) (by kernel_rfl)) (by kernel_rfl)) (by kernel_rfl)) (by kernel_rfl)) (by rw [hD]; exact Bool.false_ne_true)
              obtain ⟨z1, z2, z3⟩ := hB h16
              have z0 := z1
              unfold CorePl.cells at z0
              refine runsTo_mono11 (Q := fun uu w2 => w2 = w1 ∧ uu = (.pointer (some ⟨bx, 1, none⟩) : Value)) ?_ (fun uu w2 ⟨h1, h2⟩ => ⟨c, by subst h1; exact ⟨by simpa using hB, by simpa using hG, by simpa using h5, by simpa using h6⟩, fun _ _ _ => rfl, .inr h2⟩)
              clear hB hG h5 h6
              go_simp
              all_goals exact ⟨rfl, rfl⟩
            | 9, ho, hD, hpre =>
              cases (show some _ = some oo' from ho)
              have e75 := ev_nfK (hV 8 75 rfl)
              have h16 : D 16 = false := by
                cases hd : D 16 with
                | false => rfl
                | true => exact absurd (hcl 12 9 (hcl 13 12 (hcl 14 13 (hcl 16 14 hd (by kernel_rfl)) (by kernel_rfl)) (by kernel_rfl)) (by kernel_rfl)) (by rw [hD]; exact Bool.false_ne_true)
              obtain ⟨z1, z2, z3⟩ := hB h16
              have z0 := z1
              unfold CorePl.cells at z0
              refine runsTo_mono11 (Q := fun uu w2 => w2 = w1 ∧ uu = (.int .i64 (t : Int) : Value)) ?_ (fun uu w2 ⟨h1, h2⟩ => ⟨c, by subst h1; exact ⟨by simpa using hB, by simpa using hG, by simpa using h5, by simpa using h6⟩, fun _ _ _ => rfl, .inr h2⟩)
              clear hB hG h5 h6
              go_simp
              all_goals exact ⟨rfl, rfl⟩
            | 10, ho, hD, hpre =>
              cases (show some _ = some oo' from ho)
              have e3 := ev_nfK ((hO 3 (notDstK (by kernel_rfl))).trans rfl)
              have h16 : D 16 = false := by
                cases hd : D 16 with
                | false => rfl
                | true => exact absurd (hcl 11 10 (hcl 12 11 (hcl 13 12 (hcl 14 13 (hcl 16 14 hd (by kernel_rfl)) (by kernel_rfl)) (by kernel_rfl)) (by kernel_rfl)) (by kernel_rfl)) (by rw [hD]; exact Bool.false_ne_true)
              obtain ⟨z1, z2, z3⟩ := hB h16
              have z0 := z1
              unfold CorePl.cells at z0
              refine runsTo_mono11 (Q := fun uu w2 => w2 = w1 ∧ uu = (.pointer (some ⟨bx, 2, none⟩) : Value)) ?_ (fun uu w2 ⟨h1, h2⟩ => ⟨c, by subst h1; exact ⟨by simpa using hB, by simpa using hG, by simpa using h5, by simpa using h6⟩, fun _ _ _ => rfl, .inr h2⟩)
              clear hB hG h5 h6
              go_simp
              all_goals exact ⟨rfl, rfl⟩
            | 11, ho, hD, hpre =>
              cases (show some _ = some oo' from ho)
              have e77 := ev_nfK (hV 10 77 rfl)
              have h16 : D 16 = false := by
                cases hd : D 16 with
                | false => rfl
                | true => exact absurd (hcl 12 11 (hcl 13 12 (hcl 14 13 (hcl 16 14 hd (by kernel_rfl)) (by kernel_rfl)) (by kernel_rfl)) (by kernel_rfl)) (by rw [hD]; exact Bool.false_ne_true)
              obtain ⟨z1, z2, z3⟩ := hB h16
              have z0 := z1
              unfold CorePl.cells at z0
              refine runsTo_mono11 (Q := fun uu w2 => w2 = w1 ∧ uu = (.int .u64 (wt : Int) : Value)) ?_ (fun uu w2 ⟨h1, h2⟩ => ⟨c, by subst h1; exact ⟨by simpa using hB, by simpa using hG, by simpa using h5, by simpa using h6⟩, fun _ _ _ => rfl, .inr h2⟩)
              clear hB hG h5 h6
              go_simp
              all_goals exact ⟨rfl, rfl⟩
            | 12, ho, hD, hpre =>
              cases (show some _ = some oo' from ho)
              have e76 := ev_nfK (hV 9 76 rfl)
              have e78 := ev_nfK (hV 11 78 rfl)
              have h16 : D 16 = false := by
                cases hd : D 16 with
                | false => rfl
                | true => exact absurd (hcl 13 12 (hcl 14 13 (hcl 16 14 hd (by kernel_rfl)) (by kernel_rfl)) (by kernel_rfl)) (by rw [hD]; exact Bool.false_ne_true)
              obtain ⟨z1, z2, z3⟩ := hB h16
              have z0 := z1
              unfold CorePl.cells at z0
              refine runsTo_mono11 (Q := fun uu w2 => w2 = w1 ∧ uu = (.agg #[.int .i64 (t : Int), .int .u64 (wt : Int)] : Value)) ?_ (fun uu w2 ⟨h1, h2⟩ => ⟨c, by subst h1; exact ⟨by simpa using hB, by simpa using hG, by simpa using h5, by simpa using h6⟩, fun _ _ _ => rfl, .inr h2⟩)
              clear hB hG h5 h6
              go_simp
              all_goals exact ⟨rfl, rfl⟩
            | 13, ho, hD, hpre =>
              cases (show some _ = some oo' from ho)
              have e79 := ev_nfK (hV 12 79 rfl)
              have h16 : D 16 = false := by
                cases hd : D 16 with
                | false => rfl
                | true => exact absurd (hcl 14 13 (hcl 16 14 hd (by kernel_rfl)) (by kernel_rfl)) (by rw [hD]; exact Bool.false_ne_true)
              obtain ⟨z1, z2, z3⟩ := hB h16
              have z0 := z1
              unfold CorePl.cells at z0
              have n13 : D 13 = false := hD
              have n14 : D 14 = false := by
                cases hd : D 14 with
                | false => rfl
                | true => exact absurd (hcl 14 13 hd (by kernel_rfl)) (by rw [hD]; exact Bool.false_ne_true)
              obtain ⟨y1, y2⟩ := hG n14
              have h4 : Grows w1 (w1.alloc (.cells #[.int .i64 (t : Int), .int .u64 (wt : Int)] 40)) := (Grows.refl _).new _
              refine runsTo_mono11 (Q := fun uu w2 => w2 = w1.alloc (.cells #[.int .i64 (t : Int), .int .u64 (wt : Int)] 40) ∧ uu = (.slice (some ⟨w1.heap.size, 0, none⟩) 1 1 : Value)) ?_ (fun uu w2 hq => ?_)
              · clear hB hG h5 h6
                go_simp
                all_goals exact ⟨rfl, rfl⟩
              · obtain ⟨h8, h1⟩ := hq
                subst h8
                refine ⟨(w1.heap.size, c.2), ⟨fun _ => ⟨z1.grow h4, z2.grow h4, z3.grow h4⟩, fun _ => ⟨y1.trans h4, fun _ => Arr.make _ _ _⟩, fun hd => absurd hd (by simp [n14]), fun hd => absurd hd (by simp [h16])⟩, fun j _ hDj => ?_, .inr h1⟩
                · match j, hDj with
                  | 0, _ => rfl
                  | 1, _ => rfl
                  | 2, _ => rfl
                  | 3, _ => rfl
                  | 4, _ => rfl
                  | 5, _ => rfl
                  | 6, _ => rfl
                  | 7, _ => rfl
                  | 8, _ => rfl
                  | 9, _ => rfl
                  | 10, _ => rfl
                  | 11, _ => rfl
                  | 12, _ => rfl
                  | 13, hDj => exact absurd hDj (by rw [n13]; exact Bool.false_ne_true)
                  | 14, _ => rfl
                  | 15, _ => rfl
                  | 16, _ => rfl
                  | n + 17, _ => rfl
            | 14, ho, hD, hpre =>
              cases (show some _ = some oo' from ho)
              have e74 := ev_nfK (hV 7 74 rfl)
              have e80 := ev_nfK (hV 13 80 rfl)
              have h16 : D 16 = false := by
                cases hd : D 16 with
                | false => rfl
                | true => exact absurd (hcl 16 14 hd (by kernel_rfl)) (by rw [hD]; exact Bool.false_ne_true)
              obtain ⟨z1, z2, z3⟩ := hB h16
              have z0 := z1
              unfold CorePl.cells at z0
              have n14 : D 14 = false := hD
              have n13 : D 13 = true := hpre 13 (by kernel_rfl)
              obtain ⟨y1, y2⟩ := hG n14
              have y3 := y2 n13
              refine runsTo_mono11 (runs_appT elemArc (s := .tmp 74) (x := .tmp 80) rfl fl.length (R.cf f) (R.Af f) (its fl) ((hV 7 74 rfl).trans rfl) (HO4.out.grows y1) c.1 1 [.int .i64 (t : Int), .int .u64 (wt : Int)] ((hV 13 80 rfl).trans rfl) rfl (fun j u hu => by rw [y3.cell]; exact hu) (fun u hu => by simp at hu; rcases hu with rfl | rfl <;> rfl) (by omega)) (fun uu w5 hq => ?_)
              obtain ⟨A5, c5, h1, hown5, ht5, hA5⟩ := hq
              have hX5 := (HX4.out.grow y1).headed hf (l' := fl ++ [(t, wt)]) (by rw [its_app, List.length_append, List.length_singleton]; exact hown5) ht5 hA5
              rw [List.length_append, List.length_singleton] at hX5
              refine ⟨(c.1, A5, c5), ⟨fun _ => ⟨hX5.1.1, hX5.1.2, z3.touch ht5 (fun ⟨p, hp, e⟩ => HRX.out p hp e)⟩, fun hd => absurd hd (by simp), fun _ _ => ⟨(HT4.out.grows y1).trans (ht5.mono HSR.out), hX5.2, fun p hp => (hA5 p hp).imp id (fun h => Nat.le_trans y1.size h.1)⟩, fun hd => absurd hd (by simp [h16])⟩, fun j _ hDj => ?_, .inr h1⟩
              · match j, hDj with
                | 0, _ => rfl
                | 1, _ => rfl
                | 2, _ => rfl
                | 3, _ => rfl
                | 4, _ => rfl
                | 5, _ => rfl
                | 6, _ => rfl
                | 7, _ => rfl
                | 8, _ => rfl
                | 9, _ => rfl
                | 10, _ => rfl
                | 11, _ => rfl
                | 12, _ => rfl
                | 13, _ => rfl
                | 14, hDj => exact absurd hDj (by rw [n14]; exact Bool.false_ne_true)
                | 15, _ => rfl
                | 16, _ => rfl
                | n + 17, _ => rfl
            | 15, ho, hD, hpre =>
              cases (show some _ = some oo' from ho)
              have e71 := ev_nfK (hV 4 71 rfl)
              have e73 := ev_nfK (hV 6 73 rfl)
              have h16 : D 16 = false := by
                cases hd : D 16 with
                | false => rfl
                | true => exact absurd (hcl 16 15 hd (by kernel_rfl)) (by rw [hD]; exact Bool.false_ne_true)
              obtain ⟨z1, z2, z3⟩ := hB h16
              have z0 := z1
              unfold CorePl.cells at z0
              refine runsTo_mono11 (Q := fun uu w2 => w2 = w1 ∧ uu = (.pointer (some ⟨P.go, f, none⟩) : Value)) ?_ (fun uu w2 ⟨h1, h2⟩ => ⟨c, by subst h1; exact ⟨by simpa using hB, by simpa using hG, by simpa using h5, by simpa using h6⟩, fun _ _ _ => rfl, .inr h2⟩)
              clear hB hG h5 h6
              go_simp
              all_goals exact ⟨rfl, rfl⟩
            | 16, ho, hD, hpre =>
              cases (show some _ = some oo' from ho)
              have e82 := ev_nfK (hV 15 82 rfl)
              have e81 := ev_nfK (hV 14 81 rfl)
              have h16 : D 16 = false := hD
              obtain ⟨z1, z2, z3⟩ := hB h16
              have z0 := z1
              unfold CorePl.cells at z0
              obtain ⟨y1, y2, y3⟩ := h5 (hpre 14 (by kernel_rfl)) h16
              have m5 : Mine w1 ⟨P.go, f, none⟩ (R.hdr f) := z2.mine f (by rw [List.getElem?_map, List.getElem?_range hf]; rfl)
              refine runsTo_mono11 (Q := fun uu w2 => w2 = w1.setCell ⟨P.go, f, none⟩ (.slice c.2.1 (fl.length + 1) c.2.2)) ?_ (fun uu w2 h1 => ⟨c, by subst h1; exact ⟨fun hd => absurd hd (by simp), fun hd => absurd hd (by simp [hpre 14 (by kernel_rfl)]), fun _ hd => absurd hd (by simp), fun _ => ⟨y1.set (.inl (HS.out _ (.inr (.inl rfl)))) _, y2, y3⟩⟩, fun _ _ _ => rfl, .inl rfl⟩)
              clear hB hG h5 h6
              go_simp
              all_goals rfl
            | n + 17, ho, hD, hpre => cases ho
        case he =>
          subst hVV
          intro cc wz hM
          obtain ⟨_, _, _, h6⟩ := hM
          obtain ⟨y1, y2, y3⟩ := h6 rfl
          have hbz := y2.bl_lt
          first | go_end0 | (rw [Exit.noGoto_normal]; go_end0)
          refine ⟨rfl, ?_, y1⟩
          rw [HCA.out]
          refine ⟨CoreRw.put ⟨A2, c2, R.Af, R.cf, R.ln⟩ f cc.2.1 cc.2.2 (fl.length + 1), ?_, fun k hk => ?_⟩
          · show CoreX wz P _ _ _ (c0.S ++ [_]).length (c0.S ++ [_]).length (c0.S ++ [_])
            rw [List.length_append, List.length_singleton]
            exact y2.any _
          · have hkl := hbz k hk
            rcases hk with hk | hk | hk | hk | hk | ⟨p, hp, rfl⟩ | ⟨x, hx, p, hp, rfl⟩
            · exact .inl (HS.out _ (.inl hk))
            · exact .inl (HS.out _ (.inr (.inl hk)))
            · exact .inl (HS.out _ (.inr (.inr (.inl hk))))
            · exact .inl (HS.out _ (.inr (.inr (.inr (.inl hk)))))
            · exact .inl (HS.out _ (.inr (.inr (.inr (.inr (.inl hk))))))
            · rcases HA2.out p hp with h | h
              · exact .inl (HSB.out _ h)
              · exact .inr ⟨Nat.le_trans hw1s h, hkl⟩
            · have hp' : (if x = f then cc.2.1 else R.Af x) = some p := hp
              by_cases e : x = f
              · rw [if_pos e] at hp'
                rcases y3 p hp' with h | h
                · exact .inl (HSR.out _ h)
                · exact .inr ⟨Nat.le_trans hw4s h, hkl⟩
              · rw [if_neg e] at hp'
                exact .inl (HS.out _ (.inr (.inr (.inr (.inr (.inr (.inr ⟨x, hx, p, hp', rfl⟩)))))))
end Go.Proofs.Ytgplpgldhoelcaa

