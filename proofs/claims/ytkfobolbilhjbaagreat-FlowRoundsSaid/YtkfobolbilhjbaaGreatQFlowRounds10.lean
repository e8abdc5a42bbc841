/- Contract: a search's iterator: it hands over each node and how far it is, rising. -/
import Derived.Laws.CopyOwn
import Derived.Deep.RegionLaw
import Derived.Test.YtkfobolbilhjbaaGreatQFlowRounds00
import Derived.Test.YtkfobolbilhjbaaGreatQFlowRounds01
import Derived.Test.YtkfobolbilhjbaaGreatQFlowRounds04
import Derived.Test.YtkfobolbilhjbaaGreatQFlowRounds05
import Derived.Test.YtkfobolbilhjbaaGreatQFlowRounds07
import Derived.Test.YtkfobolbilhjbaaGreatQFlowRounds08
import Derived.Test.YtkfobolbilhjbaaGreatQFlowRounds09
namespace Go.Proofs.YtkfobolbilhjbaaGreat
open Go Go.RowKit
attribute [local go_sem] Oper.semAt_some
def Ty (w : World) (k : Nat) (t : TypeId) : Prop := ∃ cur, w.heap[k]? = some (.cells cur t (0, 0))
theorem Ty.one {w : World} {k : Nat} {t u : TypeId} (h : Ty w k t) (h' : Ty w k u) : t = u := by
  obtain ⟨c, h⟩ := h
  obtain ⟨d, h'⟩ := h'
  rw [h] at h'
  injection h' with h'
  injection h' with _ h'
theorem Ty.grow {w w' : World} {k : Nat} {t : TypeId} (h : Ty w k t) (hg : Grows w w') : Ty w' k t := by
  obtain ⟨c, h⟩ := h
  exact ⟨c, (hg.block k (Array.getElem?_eq_some_iff.1 h).1).trans h⟩
theorem Ty.lt {w : World} {k : Nat} {t : TypeId} (h : Ty w k t) : k < w.heap.size := by
  obtain ⟨c, h⟩ := h
  exact (Array.getElem?_eq_some_iff.1 h).1
theorem Arr.ty {w : World} {g : Nat} {t : TypeId} {cs : List Value} (h : Arr w g t cs) : Ty w g t := ⟨_, h.is⟩
theorem Row1.ty {w : World} {g size n c : Nat} {t : TypeId} {xs : List Value} (h : Row1 w g t size n c xs) : Ty w g t := by
  obtain ⟨cur, h1, _⟩ := h.is
  exact ⟨cur, h1⟩
theorem Own.ty {w : World} {B n c size : Nat} {t : TypeId} {A : Option Addr} {xs : List Value} (h : Own w B t size A n c xs) : ∀ p, A = some p → B ≤ p.block ∧ Ty w p.block t := by
  intro p hp
  rcases h.2 with ⟨h1, _⟩ | ⟨g, cap, cur, h1, h2, h3, _⟩
  · rw [hp] at h1; cases h1
  · rw [hp] at h1
    injection h1 with h1 _ _
    injection h1 with h1
    subst h1
    exact ⟨h2, cur, h3⟩
section
variable {P : Program} {w0 : World}
def AtW (P : Program) (ops : Array Oper) (Q : Exit → Act → World → Prop) (tail : List Oper) (a : Act) (G : Env) (w' : World) : Prop := ∀ a', Conc G a a' w' → wpList P ops Q tail a' w'
theorem AtW.pop {ops : Array Oper} {Q : Exit → Act → World → Prop} {tail : List Oper} {a : Act} {G : Env} {w' : World} {t : Tmp} {p : Pr} (hG : G t = none) (ht : t < a.tmps.size)
    (h : ∀ v, p v w' → AtW P ops Q tail (a.put (some t) v) G w') : AtW P ops Q tail a (G.upd t p) w' := fun a' hc => by
  obtain ⟨v, hv⟩ := conc_upd hc ht
  rcases hv with ⟨hp, hc2⟩ | hne
  · exact h v hp a' hc2
  · exact absurd hG hne
theorem AtW.base {ops : Array Oper} {Q : Exit → Act → World → Prop} {tail : List Oper} {a : Act} {w' : World} (h : wpList P ops Q tail a w') : AtW P ops Q tail a Env.no w' := fun a' hc => by rw [conc_no hc]; exact h
theorem gLex_endW {ops : Array Oper} {Q : Exit → Act → World → Prop} {tail : List Oper} {a : Act} {G : Env} (h : ∀ x : Later w0, AtW P ops Q tail a G x.now) :
    gLex P ops w0 (fun a G => ∀ w', Grows w0 w' → ∀ a', Conc G a a' w' → wpList P ops Q tail a' w') [] a G := fun w' hw a' hc => h ⟨w', hw⟩ a' hc
end
def WtP (lo : Nat) (L : List Nat) : Pr := fun u w => ∃ A c, u = .slice A L.length c ∧ Own w lo 26 1 A L.length c (wv L)
theorem WtP.lasts (lo : Nat) (L : List Nat) : Lasts (WtP lo L) := fun _ _ _ hg ⟨A, c, e, h⟩ => ⟨A, c, e, h.grows hg⟩
def BtP (lo n : Nat) (p : Nat → Bool) : Pr := fun u w => ∃ b g W, u = .pointer (some ⟨b, 0, none⟩) ∧ (BtAt w b g n W ∧ ∀ j, j < n → hasW W j = p j) ∧ lo ≤ b ∧ lo ≤ g
theorem BtP.lasts (lo n : Nat) (p : Nat → Bool) : Lasts (BtP lo n p) := fun _ _ _ hg ⟨b, g, W, e, ⟨h, h'⟩, l⟩ => ⟨b, g, W, e, ⟨h.grow hg, h'⟩, l⟩
def StP (lo N : Nat) : Pr := fun u w => ∃ b g, u = .pointer (some ⟨b, 0, none⟩) ∧ StL w b g (List.replicate N (0, 0)) 0 ∧ lo ≤ b ∧ lo ≤ g
theorem StP.lasts (lo N : Nat) : Lasts (StP lo N) := fun _ _ _ hg ⟨b, g, e, h, l⟩ => ⟨b, g, e, h.grow hg, l⟩
def HpT (w : World) (lo : Nat) (S2 : Nat → Prop) : Prop := ∀ k, S2 k → lo ≤ k ∧ ∃ t, Ty w k t ∧ (t = 153 ∨ t = 3 ∨ t = 164)
def HpP (lo N : Nat) : Pr := fun u w => ∃ b S2, u = .pointer (some ⟨b, 0, none⟩) ∧ HpAt w S2 b (st0 N).2 ∧ HpT w lo S2
theorem HpP.lasts (lo N : Nat) : Lasts (HpP lo N) := fun _ _ _ hg ⟨b, S2, e, h, l⟩ => ⟨b, S2, e, h.grow hg, fun k hk => ⟨(l k hk).1, by obtain ⟨_, t, h1, h2⟩ := l k hk; exact ⟨t, h1.grow hg, h2⟩⟩⟩
theorem hpNewP (n lo : Nat) (w : World) (hn : n ≤ 65536) (hlo : lo ≤ w.heap.size) : Calls Tryz.prog 79 #[.int .i64 (n : Int)] w fun e w' => ∃ u, e = .returned u ∧ Grows w w' ∧ HpP lo n u w' := by
  refine (hpNew n w hn).mono ?_
  rintro e w' ⟨b, T, rfl, ⟨A, c, G, h1, h2, h3, h4, h5, h6⟩, ht, htn, hb, hg⟩
  have hT : T = List.replicate n (-1) := by
    refine List.ext_getElem (by simpa using ht) fun j h7 h8 => ?_
    have := htn j (by omega)
    unfold gz at this
    rw [List.getD_eq_getElem?_getD, List.getElem?_eq_getElem h7] at this
    simpa using this
  subst hT
  refine ⟨_, rfl, hg, b, fun k => k = b ∨ k = G ∨ ∃ p, A = some p ∧ p.block = k, rfl, ⟨A, c, G, h1, h2, h3, .inl rfl, .inr (.inl rfl), fun p hp => .inr (.inr ⟨p, hp, rfl⟩)⟩, fun k hk => ?_⟩
  rcases hk with rfl | rfl | ⟨p, hp, rfl⟩
  · exact ⟨Nat.le_trans hlo h4.1, _, h1.ty, .inl rfl⟩
  · exact ⟨Nat.le_trans hlo h5.1, _, h3.ty, .inr (.inl rfl)⟩
  · exact ⟨Nat.le_trans hlo (h6 p hp).1, _, (h2.ty p hp).2, .inr (.inr rfl)⟩
def WkF (w : World) (lo : Nat) (Fa : Nat → Prop) (k : Nat) : Prop := (Fa k ∧ k < lo) ∨ (lo ≤ k ∧ ∃ t, Ty w k t ∧ (t = 137 ∨ t = 156 ∨ t = 26))
def WkS (w : World) (lo : Nat) (k : Nat) : Prop := lo ≤ k ∧ ∃ t, Ty w k t ∧ (t = 150 ∨ t = 169 ∨ t = 153 ∨ t = 3 ∨ t = 164)
theorem WkF.not {w : World} {lo k : Nat} {Fa : Nat → Prop} (h : WkF w lo Fa k) : ¬ WkS w lo k := by
  rintro ⟨h1, t, h2, h3⟩
  rcases h with ⟨_, h⟩ | ⟨_, u, h4, h5⟩
  · omega
  · have := h2.one h4
    subst this
    rcases h3 with rfl | rfl | rfl | rfl | rfl <;> rcases h5 with h | h | h <;> exact absurd h (by decide)
theorem djAt_made {w : World} {x : Srch} {Fa S2 : Nat → Prop} {bx ba bn gn' be ge' bf gf bh lo cw : Nat} {Aw : Option Addr} {o1 o2 o3 : Value} {Wn We : List Nat} {L : List (Nat × Nat)} {s : HS} {m : Int}
    (h1 : Arr w bx 137 [.pointer (some ⟨ba, 0, none⟩), .bool x.back, o1, o2, o3, .int .u64 (x.most : Int), .slice Aw x.E.length cw, .pointer (some ⟨bn, 0, none⟩), .pointer (some ⟨be, 0, none⟩), .pointer (some ⟨bf, 0, none⟩), .pointer (some ⟨bh, 0, none⟩)])
    (h2 : AdjAt Fa w ba x.N x.E) (hFa : ∀ k, Fa k → k < lo) (h3 : Own w lo 26 1 Aw x.E.length cw (wv x.W)) (h4 : BtAt w bn gn' x.N Wn ∧ ∀ j, j < x.N → hasW Wn j = x.nn j) (h5 : BtAt w be ge' x.E.length We ∧ ∀ j, j < x.E.length → hasW We j = x.ne j)
    (h6 : StL w bf gf L m) (h7 : HpAt w S2 bh s) (hT : HpT w lo S2) (hlo : lo ≤ w.heap.size) (l1 : lo ≤ bx) (l2 : lo ≤ bn) (l3 : lo ≤ gn') (l4 : lo ≤ be) (l5 : lo ≤ ge') (l6 : lo ≤ bf) (l7 : lo ≤ gf) (hL : L.length = x.N) (hs : s.In x.N) : DjAt (WkF w lo Fa) (WkS w lo) w x bx L s := by
  refine ⟨bf, gf, bh, S2, ⟨ba, o1, o2, o3, Aw, cw, bn, be, gn', ge', Wn, We, h1, h2.mono fun k hk => .inl ⟨hk, hFa k hk⟩, ⟨h3.rd, fun p hp => ?_⟩, h4, h5, ?_, ?_, ?_, ?_, ?_⟩, ⟨m, h6⟩, h7, ⟨⟨l6, _, h6.row.ty, .inl rfl⟩, ⟨l7, _, h6.cells.ty, .inr (.inl rfl)⟩, fun k hk => ?_⟩, fun k hk => ⟨hk.not, ?_⟩, fun k hk => ?_, hL, hs⟩
  · exact .inr ⟨(h3.ty p hp).1, _, (h3.ty p hp).2, .inr (.inr rfl)⟩
  · exact .inr ⟨l1, _, h1.ty, .inl rfl⟩
  · exact .inr ⟨l2, _, h4.1.row.ty, .inr (.inl rfl)⟩
  · exact .inr ⟨l3, _, h4.1.words.ty, .inr (.inr rfl)⟩
  · exact .inr ⟨l4, _, h5.1.row.ty, .inr (.inl rfl)⟩
  · exact .inr ⟨l5, _, h5.1.words.ty, .inr (.inr rfl)⟩
  · obtain ⟨q1, t, q2, q3⟩ := hT k hk
    refine ⟨⟨q1, t, q2, ?_⟩, fun e => ?_⟩
    · rcases q3 with h | h | h
      · exact .inr (.inr (.inl h))
      · exact .inr (.inr (.inr (.inl h)))
      · exact .inr (.inr (.inr (.inr h)))
    · rcases e with rfl | rfl
      · have := q2.one h6.row.ty
        subst this
        rcases q3 with h | h | h <;> exact absurd h (by decide)
      · have := q2.one h6.cells.ty
        subst this
        rcases q3 with h | h | h <;> exact absurd h (by decide)
  · rcases hk with ⟨h, h'⟩ | ⟨_, t, h, _⟩
    · omega
    · exact h.lt
  · obtain ⟨_, t, h, _⟩ := hk
    exact h.lt
theorem Rd.touch0 {w w' : World} {S : Nat → Prop} {A : Option Addr} {size n : Nat} {xs : List Value} (h : Rd w A size n xs) (ht : Touch S w w') (hp : 0 < n → ∀ p, A = some p → ¬ S p.block) : Rd w' A size n xs := by
  rcases Nat.eq_zero_or_pos n with h0 | h0
  · exact ⟨h.1, fun h1 => absurd h0 (Nat.ne_of_gt h1)⟩
  · exact h.touch ht (hp h0)
theorem Rd.block_lt {w : World} {A : Option Addr} {size n : Nat} {xs : List Value} (h : Rd w A size n xs) (hs : 0 < size) : 0 < n → ∀ p, A = some p → p.block < w.heap.size := by
  intro hn p hp
  obtain ⟨b, off, e, hc⟩ := h.2 hn hs
  rw [e] at hp
  obtain rfl := Option.some.inj hp
  have hl : 0 < xs.length := by rw [h.1]; exact Nat.mul_pos hn hs
  have := hc 0 _ (List.getElem?_eq_getElem hl)
  rcases Nat.lt_or_ge b w.heap.size with h1 | h1
  · exact h1
  · simp [World.cell?, Array.getElem?_eq_none h1] at this
structure DOpt where
  back : Bool
  nn : List Int
  ne : List Int
  W : List Nat
  most : Nat
def srchOf (N : Nat) (E : List Edg) (o : DOpt) : Srch := ⟨N, E, o.back, o.most, wtF N E o.W, fun j => decide ((j : Int) ∈ o.nn), fun j => decide ((j : Int) ∈ o.ne)⟩
def WalkAt (F : Nat → Prop) (w : World) (b1 b2 b3 N s : Nat) (E : List Edg) (o : DOpt) : Prop :=
  ∃ A c An cn Ae ce Aw cw, Arr w b1 24 [.int .i64 (N : Int), .slice A E.length c] ∧ Arr w b2 50 [.bool o.back, .slice An o.nn.length cn, .slice Ae o.ne.length ce, .slice Aw o.W.length cw, .int .u64 (o.most : Int)] ∧ Arr w b3 3 [.int .i64 (s : Int)] ∧
    Rd w A 3 E.length (esCells E) ∧ Rd w An 1 o.nn.length (o.nn.map (.int .i64)) ∧ Rd w Ae 1 o.ne.length (o.ne.map (.int .i64)) ∧ Rd w Aw 1 o.W.length (wv o.W) ∧
    (F b1 ∧ F b2 ∧ F b3 ∧ (0 < E.length → ∀ p, A = some p → F p.block) ∧ (0 < o.nn.length → ∀ p, An = some p → F p.block) ∧ (0 < o.ne.length → ∀ p, Ae = some p → F p.block) ∧ (0 < o.W.length → ∀ p, Aw = some p → F p.block))
theorem WalkAt.touch {F S : Nat → Prop} {w w' : World} {b1 b2 b3 N s : Nat} {E : List Edg} {o : DOpt} (h : WalkAt F w b1 b2 b3 N s E o) (ht : Touch S w w') (hs : ∀ k, F k → ¬ S k) : WalkAt F w' b1 b2 b3 N s E o := by
  obtain ⟨A, c, An, cn, Ae, ce, Aw, cw, h1, h2, h3, h4, h5, h6, h7, f1, f2, f3, f4, f5, f6, f7⟩ := h
  exact ⟨A, c, An, cn, Ae, ce, Aw, cw, h1.touch ht (hs _ f1), h2.touch ht (hs _ f2), h3.touch ht (hs _ f3), h4.touch0 ht (fun h p hp => hs _ (f4 h p hp)), h5.touch0 ht (fun h p hp => hs _ (f5 h p hp)), h6.touch0 ht (fun h p hp => hs _ (f6 h p hp)), h7.touch0 ht (fun h p hp => hs _ (f7 h p hp)), f1, f2, f3, f4, f5, f6, f7⟩
structure WalkOk (N s : Nat) (E : List Edg) (o : DOpt) : Prop where
  right : rightF N E = 0
  node : s < N
  wts : o.W.length = 0 ∨ o.W.length = E.length
  most : o.most < 18446744073709551616
  nns : o.nn.length ≤ 1000000
  nes : o.ne.length ≤ 1000000
theorem WalkOk.wlen {N s : Nat} {E : List Edg} {o : DOpt} (h : WalkOk N s E o) : (wtF N E o.W).length = E.length := by
  have hr := h.right
  have hw := h.wts
  unfold wtF
  rw [if_neg (by omega), if_neg (by omega)]
  split
  · omega
  · simp [eW]
theorem WalkOk.srch {N s : Nat} {E : List Edg} {o : DOpt} (h : WalkOk N s E o) : SrchOk (srchOf N E o) := by
  obtain ⟨r1, r2, r3, r4, r5⟩ := right_in h.right
  rw [Int.toNat_natCast] at r4
  exact ⟨r4, by show E.length ≤ _; omega, by show N ≤ _; omega, h.wlen, h.most⟩
set_option maxRecDepth 40000 in
set_option maxHeartbeats 8000000 in
theorem djWalk1 (F B M0 : Nat → Prop) (b1 b2 b3 N s : Nat) (E : List Edg) (o : DOpt) (xs : List (Nat × Nat)) (w : World) (h : WalkAt F w b1 b2 b3 N s E o) (hF : ∀ k, F k → B k ∨ M0 k) (hM : ∀ k, M0 k → k < w.heap.size) (hB : ∀ k, B k → k < w.heap.size) (hok : WalkOk N s E o)
    (hxs : if (s : Int) ∈ o.nn then xs = [] else Trace (srchOf N E o) (reachS o.most (st0 N) s 0) xs) :
    Gives Tryz.prog 76 #[.pointer (some ⟨b1, 0, none⟩), .pointer (some ⟨b2, 0, none⟩), .pointer (some ⟨b3, 0, none⟩)] encD B M0 xs w := by
  intro l J Jx W hkW hJ hJx hY h0
  have HJ := hide hJ
  have HJX := hide hJx
  have HY := hide hY
  have H0 := hide h0
  have HMW := hide (show ∀ k, M0 k → k < W.heap.size from fun k hk => Nat.lt_of_lt_of_le (hM k hk) hkW.size)
  have HBW := hide (show ∀ k, B k → k < W.heap.size from fun k hk => Nat.lt_of_lt_of_le (hB k hk) hkW.size)
  have hW := h.touch hkW (fun k hk h1 => h1 (hF k hk))
  have HOK := hide hok
  have HXS := hide hxs
  clear h hF hM hB hJ hJx hY h0 hkW hxs
  obtain ⟨r1, r2, r3, r4, r5⟩ := right_in hok.right
  rw [Int.toNat_natCast] at r4
  have r2' : N ≤ 4096 := by omega
  have hsN := hok.node
  have hnn := hok.nns
  have hne := hok.nes
  have hwts := hok.wts
  obtain ⟨A, c, An, cn, Ae, ce, Aw, cw, a1, a2, a3, q1, q2, q3, q4, _⟩ := hW
  have CA := hide (adjNew N A E.length c E W q1 (by omega) hok.right)
  have CW := hide (fun (W1 : World) (g : Grows W W1) => djWeights (N : Int) A E.length c E o.back (.slice An o.nn.length cn) (.slice Ae o.ne.length ce) Aw o.W.length cw o.most o.W W1 (q1.grows g) (q4.grows g) (by omega) (by omega))
  have CN := hide (fun (W1 : World) (g : Grows W W1) => bitsOf N An o.nn.length cn o.nn W1 (q2.grows g) (by omega) hnn)
  have CE := hide (fun (W1 : World) (g : Grows W W1) => bitsOf E.length Ae o.ne.length ce o.ne W1 (q3.grows g) (by omega) hne)
  have HWL := hide hok.wlen
  unfold oVal at CW
  clear hok r4 r5 q1 q2 q3 q4 r1 r2 hnn hne hwts
  refine callsIn_wide.2 ?_
  show Calls Tryz.prog 76 #[.func (.yield l) #[] #[], .pointer (some ⟨b1, 0, none⟩), .pointer (some ⟨b2, 0, none⟩), .pointer (some ⟨b3, 0, none⟩)] W _
  go_enter Tryz.func76, Tryz.ntmps76
  go_wp2_with (go_at_call 50; refine (CA.out).mono ?_; rintro e w' ⟨ba, rfl, hA, hg⟩; obtain ⟨x1, rfl⟩ := hg.later; have HA := hide hA; clear hA hg)
  have hA1 : Hid (∀ k, New W x1.now k → k < x1.now.heap.size) := fun k hk => hk.2
  have hx1 := x1.size
  (refine wp_region_tail1 22 (by kernel_rfl) (by kernel_rfl) ?_; simp only [List.take_succ_cons, List.take_zero, List.drop_succ_cons, List.drop_zero]; (repeat' ((first | refine gLex_val0 rfl (by kernel_rfl) (fun K hK => ?_) | refine gLex_undef rfl rfl rfl (by kernel_rfl) (fun K hK => ?_) | (refine gLex_ask rfl rfl rfl ?_; first | (apply gAsk_yes; kernel_rfl; intro K hK) | ((first | apply gAsk_no1 | apply gAsk_no2); kernel_rfl; intro K hK))) <;> (go_simp; (try (simp only [↓IntWalk.iteOmega]; try go_simp)); (try simp (disch := omega) only [IntWalk.i64_in]); (try simp (disch := omega) only [IntWalk.u64_in]); refine hK _ ?_; clear hK K))))
  refine gLex_prop rfl (by kernel_rfl) rfl (by simp) (WtP x1.now.heap.size (wtF N E o.W)) (WtP.lasts _ _) (fun y => by
    go_simp
    refine (CW.out _ GG).mono ?_
    rintro e w' ⟨A3, c3, rfl, ho, hg⟩
    exact ⟨_, rfl, hg, A3, c3, rfl, ho.base y.size⟩) ?_
  (repeat' ((first | refine gLex_val0 rfl (by kernel_rfl) (fun K hK => ?_) | refine gLex_undef rfl rfl rfl (by kernel_rfl) (fun K hK => ?_) | (refine gLex_ask rfl rfl rfl ?_; first | (apply gAsk_yes; kernel_rfl; intro K hK) | ((first | apply gAsk_no1 | apply gAsk_no2); kernel_rfl; intro K hK))) <;> (go_simp; (try (simp only [↓IntWalk.iteOmega]; try go_simp)); (try simp (disch := omega) only [IntWalk.i64_in]); (try simp (disch := omega) only [IntWalk.u64_in]); refine hK _ ?_; clear hK K)))
  refine gLex_prop rfl (by kernel_rfl) rfl (by simp) (BtP x1.now.heap.size N (fun j => decide ((j : Int) ∈ o.nn))) (BtP.lasts _ _ _) (fun y => by
    go_simp
    refine (CN.out _ GG).mono ?_
    rintro e w' ⟨b, g, WW, rfl, h1, h2, h3, h4, h5, h6, hg⟩
    exact ⟨_, rfl, hg, b, g, WW, rfl, ⟨h1, h2⟩, Nat.le_trans y.size h3, Nat.le_trans y.size h5⟩) ?_
  (repeat' ((first | refine gLex_val0 rfl (by kernel_rfl) (fun K hK => ?_) | refine gLex_undef rfl rfl rfl (by kernel_rfl) (fun K hK => ?_) | (refine gLex_ask rfl rfl rfl ?_; first | (apply gAsk_yes; kernel_rfl; intro K hK) | ((first | apply gAsk_no1 | apply gAsk_no2); kernel_rfl; intro K hK))) <;> (go_simp; (try (simp only [↓IntWalk.iteOmega]; try go_simp)); (try simp (disch := omega) only [IntWalk.i64_in]); (try simp (disch := omega) only [IntWalk.u64_in]); refine hK _ ?_; clear hK K)))
  refine gLex_prop rfl (by kernel_rfl) rfl (by simp) (BtP x1.now.heap.size E.length (fun j => decide ((j : Int) ∈ o.ne))) (BtP.lasts _ _ _) (fun y => by
    go_simp
    refine (CE.out _ GG).mono ?_
    rintro e w' ⟨b, g, WW, rfl, h1, h2, h3, h4, h5, h6, hg⟩
    exact ⟨_, rfl, hg, b, g, WW, rfl, ⟨h1, h2⟩, Nat.le_trans y.size h3, Nat.le_trans y.size h5⟩) ?_
  (repeat' ((first | refine gLex_val0 rfl (by kernel_rfl) (fun K hK => ?_) | refine gLex_undef rfl rfl rfl (by kernel_rfl) (fun K hK => ?_) | (refine gLex_ask rfl rfl rfl ?_; first | (apply gAsk_yes; kernel_rfl; intro K hK) | ((first | apply gAsk_no1 | apply gAsk_no2); kernel_rfl; intro K hK))) <;> (go_simp; (try (simp only [↓IntWalk.iteOmega]; try go_simp)); (try simp (disch := omega) only [IntWalk.i64_in]); (try simp (disch := omega) only [IntWalk.u64_in]); refine hK _ ?_; clear hK K)))
  refine gLex_prop rfl (by kernel_rfl) rfl (by simp) (StP x1.now.heap.size N) (StP.lasts _ _) (fun y => by
    go_simp
    refine (stNew N _ (by omega)).mono ?_
    rintro e w' ⟨b, g, rfl, h1, h2, h3, h4, h5, hg⟩
    exact ⟨_, rfl, hg, b, g, rfl, h1, Nat.le_trans y.size h2, Nat.le_trans y.size h4⟩) ?_
  (repeat' ((first | refine gLex_val0 rfl (by kernel_rfl) (fun K hK => ?_) | refine gLex_undef rfl rfl rfl (by kernel_rfl) (fun K hK => ?_) | (refine gLex_ask rfl rfl rfl ?_; first | (apply gAsk_yes; kernel_rfl; intro K hK) | ((first | apply gAsk_no1 | apply gAsk_no2); kernel_rfl; intro K hK))) <;> (go_simp; (try (simp only [↓IntWalk.iteOmega]; try go_simp)); (try simp (disch := omega) only [IntWalk.i64_in]); (try simp (disch := omega) only [IntWalk.u64_in]); refine hK _ ?_; clear hK K)))
  refine gLex_prop rfl (by kernel_rfl) rfl (by simp) (HpP x1.now.heap.size N) (HpP.lasts _ _) (fun y => by
    go_simp
    exact hpNewP N _ _ (by omega) y.size) ?_
  refine gLex_endW (fun y => ?_)
  refine AtW.pop rfl (by simp) (fun v5 hv5 => ?_)
  refine AtW.pop rfl (by simp [Act.put]) (fun v4 hv4 => ?_)
  refine AtW.pop rfl (by simp [Act.put]) (fun v3 hv3 => ?_)
  refine AtW.pop rfl (by simp [Act.put]) (fun v2 hv2 => ?_)
  refine AtW.pop rfl (by simp [Act.put]) (fun v1 hv1 => ?_)
  refine AtW.base ?_
  obtain ⟨A3, c3, rfl, u1⟩ := hv1
  rw [HWL.out] at u1 ⊢
  obtain ⟨bn, gn', Wn, rfl, u2, l2, l3⟩ := hv2
  obtain ⟨be, ge', We, rfl, u4, l4, l5⟩ := hv3
  obtain ⟨bf, gf, rfl, u6, l6, l7⟩ := hv4
  obtain ⟨bh, S2, rfl, u7, l8⟩ := hv5
  simp only [Act.put, List.setIfInBounds_toArray, List.set_cons_zero, List.set_cons_succ]
  have hgy : Grows W y.now := GG
  have U1 := hide u1
  have U2 := hide u2
  have U4 := hide u4
  have U6 := hide u6
  have U7 := hide u7
  have L8 := hide l8
  clear u1 u2 u4 u6 u7 l8 CA CW CN CE
  go_upto_region 3 with fail
  have hbx : Arr (y.now.alloc (.cells #[.pointer (some ⟨ba, 0, none⟩), .bool o.back, .slice An o.nn.length cn, .slice Ae o.ne.length ce, .slice Aw o.W.length cw, .int .u64 (o.most : Int), .slice A3 E.length c3, .pointer (some ⟨bn, 0, none⟩), .pointer (some ⟨be, 0, none⟩), .pointer (some ⟨bf, 0, none⟩), .pointer (some ⟨bh, 0, none⟩)] 137)) y.now.heap.size 137
      [.pointer (some ⟨ba, 0, none⟩), .bool o.back, .slice An o.nn.length cn, .slice Ae o.ne.length ce, .slice Aw o.W.length cw, .int .u64 (o.most : Int), .slice A3 E.length c3, .pointer (some ⟨bn, 0, none⟩), .pointer (some ⟨be, 0, none⟩), .pointer (some ⟨bf, 0, none⟩), .pointer (some ⟨bh, 0, none⟩)] := Arr.make _ _ _
  have hgx : Grows y.now (y.now.alloc (.cells #[.pointer (some ⟨ba, 0, none⟩), .bool o.back, .slice An o.nn.length cn, .slice Ae o.ne.length ce, .slice Aw o.W.length cw, .int .u64 (o.most : Int), .slice A3 E.length c3, .pointer (some ⟨bn, 0, none⟩), .pointer (some ⟨be, 0, none⟩), .pointer (some ⟨bf, 0, none⟩), .pointer (some ⟨bh, 0, none⟩)] 137)) := (Grows.refl _).new _
  have hlo := y.size
  have hD : DjAt (WkF (y.now.alloc (.cells #[.pointer (some ⟨ba, 0, none⟩), .bool o.back, .slice An o.nn.length cn, .slice Ae o.ne.length ce, .slice Aw o.W.length cw, .int .u64 (o.most : Int), .slice A3 E.length c3, .pointer (some ⟨bn, 0, none⟩), .pointer (some ⟨be, 0, none⟩), .pointer (some ⟨bf, 0, none⟩), .pointer (some ⟨bh, 0, none⟩)] 137)) x1.now.heap.size (New W x1.now))
      (WkS (y.now.alloc (.cells #[.pointer (some ⟨ba, 0, none⟩), .bool o.back, .slice An o.nn.length cn, .slice Ae o.ne.length ce, .slice Aw o.W.length cw, .int .u64 (o.most : Int), .slice A3 E.length c3, .pointer (some ⟨bn, 0, none⟩), .pointer (some ⟨be, 0, none⟩), .pointer (some ⟨bf, 0, none⟩), .pointer (some ⟨bh, 0, none⟩)] 137)) x1.now.heap.size)
      (y.now.alloc (.cells #[.pointer (some ⟨ba, 0, none⟩), .bool o.back, .slice An o.nn.length cn, .slice Ae o.ne.length ce, .slice Aw o.W.length cw, .int .u64 (o.most : Int), .slice A3 E.length c3, .pointer (some ⟨bn, 0, none⟩), .pointer (some ⟨be, 0, none⟩), .pointer (some ⟨bf, 0, none⟩), .pointer (some ⟨bh, 0, none⟩)] 137)) (srchOf N E o) y.now.heap.size (st0 N).1 (st0 N).2 := by
    exact djAt_made (x := srchOf N E o) (lo := x1.now.heap.size) (L := (st0 N).1) (s := (st0 N).2) hbx ((HA.out.grows y.grows).grows hgx) hA1.out (U1.out.grows hgx) ⟨U2.out.1.grow hgx, U2.out.2⟩ ⟨U4.out.1.grow hgx, U4.out.2⟩ (U6.out.grow hgx) (U7.out.grow hgx) (fun k hk => ⟨(L8.out k hk).1, by obtain ⟨_, t, z1, z2⟩ := L8.out k hk; exact ⟨t, z1.grow hgx, z2⟩⟩) (Nat.le_trans hlo hgx.size) hlo l2 l3 l4 l5 l6 l7 (by simp [st0, srchOf]) (st0_lk N).isIn
  have CH := hide (fun (W1 : World) (hg : Grows y.now W1) => bitsHasIn bn gn' N Wn s W1 (U2.out.1.grow hg) hsN (by omega))
  rw [U2.out.2 s hsN] at CH
  have HD := hide hD
  clear hD U1 U2 U4 U6 U7 L8 HA
  have hwb : x1.now.heap.size ≤ (y.now.alloc (.cells #[.pointer (some ⟨ba, 0, none⟩), .bool o.back, .slice An o.nn.length cn, .slice Ae o.ne.length ce, .slice Aw o.W.length cw, .int .u64 (o.most : Int), .slice A3 E.length c3, .pointer (some ⟨bn, 0, none⟩), .pointer (some ⟨be, 0, none⟩), .pointer (some ⟨bf, 0, none⟩), .pointer (some ⟨bh, 0, none⟩)] 137)).heap.size := Nat.le_trans hlo hgx.size
  generalize (y.now.alloc (.cells #[.pointer (some ⟨ba, 0, none⟩), .bool o.back, .slice An o.nn.length cn, .slice Ae o.ne.length ce, .slice Aw o.W.length cw, .int .u64 (o.most : Int), .slice A3 E.length c3, .pointer (some ⟨bn, 0, none⟩), .pointer (some ⟨be, 0, none⟩), .pointer (some ⟨bf, 0, none⟩), .pointer (some ⟨bh, 0, none⟩)] 137)) = W2 at *
  generalize y.now.heap.size = bx at *
  have hg2 : Grows W W2 := hgy.trans hgx
  have CH2 := hide (fun (W1 : World) (hg : Grows W2 W1) => CH.out W1 (hgx.trans hg))
  have e1 : Arr W2 b1 _ _ := a1.grow hg2
  have e2 : Arr W2 b2 _ _ := a2.grow hg2
  have e3 : Arr W2 b3 _ _ := a3.grow hg2
  clear CH a1 a2 a3 hgy
  have HFN := hide (show ∀ k, WkF W2 x1.now.heap.size (New W x1.now) k → New W W2 k from fun k hk => by
    rcases hk with ⟨h1, h2⟩ | ⟨h1, t, h2, _⟩
    · exact ⟨h1.1, by omega⟩
    · exact ⟨by omega, h2.lt⟩)
  have HSN := hide (show ∀ k, WkS W2 x1.now.heap.size k → New W W2 k from fun k hk => by
    obtain ⟨h1, t, h2, _⟩ := hk
    exact ⟨by omega, h2.lt⟩)
  generalize WkF W2 x1.now.heap.size (New W x1.now) = F1 at *
  generalize WkS W2 x1.now.heap.size = S1 at *
  have CR := hide (fun (W1 : World) (hg : Grows W2 W1) => djReach F1 S1 (srchOf N E o) bx s 0 (st0 N).1 (st0 N).2 W1 (HD.out.grow hg) hsN (Lk.hok (st0_lk N) (by show N ≤ 65536; omega)) HOK.out.most)
  have hpr : (srchOf N E o).most = o.most := rfl
  unfold GiveReach at CR
  rw [hpr] at CR
  have hsz2 := hg2.size
  clear hpr HD l2 l3 l4 l5 l6 l7 hgx hwb hlo hx1 r3 r2' hA1 HWL
  by_cases hq : (s : Int) ∈ o.nn
  · have e0 := HXS.out
    rw [if_pos hq] at e0
    have e4 : (fun (j : Nat) => decide ((j : Int) ∈ o.nn)) s = true := decide_eq_true hq
    rw [e4] at CH2
    have HE := hide e0
    clear e0 hq e4 CR HXS
    ((first | refine wp_region_gen2 (by kernel_rfl) (by kernel_rfl) ?_ | refine wp_region_gen (by kernel_rfl) (by kernel_rfl) ?_); (repeat' ((first | refine gLex_val0 rfl (by kernel_rfl) (fun K hK => ?_) | refine gLex_undef rfl rfl rfl (by kernel_rfl) (fun K hK => ?_) | (refine gLex_ask rfl rfl rfl ?_; first | (apply gAsk_yes; kernel_rfl; intro K hK) | ((first | apply gAsk_no1 | apply gAsk_no2); kernel_rfl; intro K hK) | (apply gAsk_part; kernel_rfl; all_goals (intro h K hK; (try simp only [Bool.not_true] at h); (try simp only [Bool.not_false] at h); (try simp only [decide_eq_true_eq] at h); (try simp only [decide_eq_false_iff_not] at h); try (exfalso; first | contradiction | omega))))) <;> (go_simp; (try (simp only [↓IntWalk.iteOmega]; try go_simp)); (try simp (disch := omega) only [IntWalk.i64_in]); (try simp (disch := omega) only [IntWalk.u64_in]); first | (refine hK _ ?_; clear hK K) | (apply Exists.intro; refine ⟨fun x => ?_, hK _ ?_⟩; (first | (go_at_call 80; exact calls_same (CH2.out _ GG))); clear hK K)))); all_goals ((apply gLex_end); intro z))
    go_wp2_with fail
    refine bodyPost_ret (results_none rfl _ _ _) rfl ?_
    have hgz : Grows W z.now := hg2.trans z.grows
    refine ⟨⟨_, rfl⟩, .inl ⟨M0, ?_⟩⟩
    rw [HE.out]
    exact HJ.out [] M0 W M0 _ H0.out (hgz.touch _) (fun k hk => ⟨.inl hk, Nat.lt_of_lt_of_le (HMW.out k hk) hgz.size⟩)
  · have e0 := HXS.out
    rw [if_neg hq] at e0
    have e4 : (fun (j : Nat) => decide ((j : Int) ∈ o.nn)) s = false := decide_eq_false hq
    rw [e4] at CH2
    have HE := hide e0
    clear e0 hq e4 HXS
    ((first | refine wp_region_gen2 (by kernel_rfl) (by kernel_rfl) ?_ | refine wp_region_gen (by kernel_rfl) (by kernel_rfl) ?_); (repeat' ((first | refine gLex_val0 rfl (by kernel_rfl) (fun K hK => ?_) | refine gLex_undef rfl rfl rfl (by kernel_rfl) (fun K hK => ?_) | (refine gLex_ask rfl rfl rfl ?_; first | (apply gAsk_yes; kernel_rfl; intro K hK) | ((first | apply gAsk_no1 | apply gAsk_no2); kernel_rfl; intro K hK) | (apply gAsk_part; kernel_rfl; all_goals (intro h K hK; (try simp only [Bool.not_true] at h); (try simp only [Bool.not_false] at h); (try simp only [decide_eq_true_eq] at h); (try simp only [decide_eq_false_iff_not] at h); try (exfalso; first | contradiction | omega))))) <;> (go_simp; (try (simp only [↓IntWalk.iteOmega]; try go_simp)); (try simp (disch := omega) only [IntWalk.i64_in]); (try simp (disch := omega) only [IntWalk.u64_in]); first | (refine hK _ ?_; clear hK K) | (apply Exists.intro; refine ⟨fun x => ?_, hK _ ?_⟩; (first | (go_at_call 80; exact calls_same (CH2.out _ GG))); clear hK K)))); all_goals ((apply gLex_end); intro z))
    go_wp2_with fail
    refine (CR.out _ z.grows).mono ?_
    rintro e w5 ⟨rfl, hd, ht⟩
    have hgz : Grows W z.now := hg2.trans z.grows
    have hs5 := ht.size
    have hsz := z.grows.size
    have ht5 : Touch M0 W w5 := (hgz.touch M0).trans2 ht (fun k hk => .inr (HSN.out k hk).1)
    have hin5 : ∀ k, (M0 k ∨ New W w5 k) → (M0 k ∨ W.heap.size ≤ k) ∧ k < w5.heap.size := fun k hk => by
      rcases hk with hk | hk
      · exact ⟨.inl hk, by have := HMW.out k hk; omega⟩
      · exact ⟨.inr hk.1, hk.2⟩
    have CD := hide (djRun F1 B (srchOf N E o) bx l J Jx xs (reachS o.most (st0 N) s 0) [] xs (fun k => M0 k ∨ New W w5 k) _ w5 HOK.out.srch HJ.out HJX.out HY.out rfl HE.out hd (HJ.out [] M0 W _ w5 H0.out ht5 hin5)
      (fun k hk => .inr (.inr ⟨(HFN.out k hk).1, by have := (HFN.out k hk).2; omega⟩)) (fun k hk => by
        rcases hk with hk | hk
        · exact .inr ⟨(HSN.out k hk).1, by have := (HSN.out k hk).2; omega⟩
        · exact .inr ⟨by have := hk.1; omega, hk.2⟩) (fun k hk => (hin5 k hk).2) (fun k hk => by have := HBW.out k hk; omega))
    clear CR hd ht ht5 hin5 hs5 hsz HE HY H0 HFN HSN CH2 e1 e2 e3 hbx
    go_wp2_with fail
    refine CD.out.mono ?_
    rintro e w6 ⟨⟨v, rfl⟩, hr⟩
    have HRR := hide hr
    clear hr
    go_wp2_with fail
    go_end0
    exact ⟨⟨_, rfl⟩, HRR.out⟩
end Go.Proofs.YtkfobolbilhjbaaGreat

namespace Go.Proofs.YtkfobolbilhjbaaGreat
open Go Go.RowKit
def RepAt (w : World) (G n z k : Nat) (wr : World) : Prop := ∃ y : Later w, wr = y.now ∧ ∃ cs : List Value, Arr y.now G 26 cs ∧ cs.length = n ∧ cs.take k = List.replicate k (Value.int .u64 (z : Int))
theorem RepAt.copied {w : World} {G n z k m : Nat} {y : Later w} {cs : List Value} (ha : Arr y.now G 26 cs) (hl : cs.length = n) (hk : cs.take k = List.replicate k (.int .u64 (z : Int))) (hm : k + m ≤ n) (hG : w.heap.size ≤ G) :
    RepAt w G n z (k + m) (y.now.setRow G (cs.take k ++ (List.replicate m (Value.int .u64 (z : Int)) ++ cs.drop (k + m))).toArray) := by
  refine ⟨⟨_, below_setRow y.grows hG _⟩, rfl, _, ⟨setRow_heap _ _ _ _ _ _ ha.is⟩, ?_, ?_⟩
  · simp; omega
  · rw [hk, ← List.append_assoc, List.replicate_append_replicate, List.take_left' (by simp)]
set_option maxRecDepth 20000 in
set_option maxHeartbeats 4000000 in
theorem repeatU (g c0 z n : Nat) (w : World) (h : Holds w ⟨g, 0, none⟩ (.int .u64 (z : Int))) (hn : 1 ≤ n) (hn2 : n ≤ 65536) :
    Calls Tryz.prog 62 #[.slice (some ⟨g, 0, none⟩) 1 c0, .int .i64 (n : Int)] w fun e w' => ∃ G, e = .returned (.slice (some ⟨G, 0, none⟩) n n) ∧ Row1 w' G 26 1 n n (wv (List.replicate n z)) ∧ w.heap.size ≤ G ∧ Grows w w' := by
  have C := hide (fun (W : World) => show Calls Tryz.prog 75 #[.int .u64 1, .int .u64 (n : Int)] W fun e w' => e = .returned (.tuple #[.int .u64 0, .int .u64 (n : Int)]) ∧ W = w' from
    (Tryz.bits_Mul 1 n (by omega) (by omega) W).mono (fun e w' h => by
      obtain ⟨rfl, rfl⟩ := h
      have e1 : 1 * n / 18446744073709551616 = 0 := by omega
      have e2 : 1 * n % 18446744073709551616 = n := by omega
      rw [e1, e2]
      exact ⟨rfl, rfl⟩))
  have mk := run_makeU64s n (by omega)
  have hsz : (Tryz.prog.info? 26).map (·.size) = some 1 := by
    have h : (Tryz.prog.info? 26).map (fun i => (i.zero, i.size, i.bytes)) = some (some (.int .u64 0), 1, 8) := by kernel_rfl
    obtain ⟨i, hi, hz, hs, hb⟩ := info_parts h
    rw [hi]; simp [hs]
  have HSZ := hide hsz
  clear hsz
  go_enter Tryz.func62, Tryz.ntmps62
  go_wp2_with (first | (go_at_call 75; refine (C.out _).mono ?_; rintro e w' ⟨rfl, rfl⟩) | (refine wpList_copy_own rfl _ _ _ _ rfl 26 Tryz.underlying29 HSZ.out w.heap.size 0 n n ⟨g, 0, none⟩ 1 c0 rfl rfl (Array.replicate n (Value.int .u64 0)) 26 (World.alloc_heap_new w _) [Value.int .u64 (z : Int)] (by show 1 = min 1 n; omega) ?_ (by simp; omega) (by simp [Value.oneCell']) ?_))
  case _ =>
    intro j v hv
    match j, hv with
    | 0, hv =>
      obtain rfl : Value.int .u64 (z : Int) = v := by simpa using hv
      exact ((Grows.refl w).new _).keeps h.cell
    | j + 1, hv => simp at hv
  have H0 : Hid (RepAt w w.heap.size n z 1 ((w.alloc (Obj.cells (Array.replicate n (Value.int IntKind.u64 0)) 26)).setRow w.heap.size (Value.int IntKind.u64 ↑z :: List.replicate (n - 1) (Value.int IntKind.u64 0)).toArray)) := by
    refine ⟨⟨_, below_setRow ((Grows.refl w).new _) (Nat.le_refl _) _⟩, rfl, Value.int IntKind.u64 ↑z :: List.replicate (n - 1) (Value.int IntKind.u64 0), ⟨setRow_heap _ _ (Array.replicate n (Value.int IntKind.u64 0)) _ _ _ (World.alloc_heap_new w _)⟩, by simp; omega, by simp⟩
  obtain ⟨G, hGe⟩ : ∃ G, w.heap.size = G := ⟨_, rfl⟩
  have hG : w.heap.size ≤ G := by omega
  rw [hGe] at H0 ⊢
  clear hGe
  go_loopw [8] (fun s wr => ∃ k : Nat, 1 ≤ k ∧ k ≤ n ∧ s = .int .i64 (k : Int) ∧ RepAt w G n z k wr) (fun s _ => n - (Go.RowKit.intOf s).toNat)
  case atStart => exact ⟨1, by omega, by omega, by go_num, H0.out⟩
  case round =>
    obtain ⟨k, hk1, hk, rfl, y, rfl, cs, ha, hl, ht⟩ := hrel
    have HA := hide ha
    have HL := hide hl
    have HT := hide ht
    clear ha hl ht H0
    by_cases hlt : k < n
    · have hne : ¬ n = k := by omega
      obtain ⟨m, hm⟩ : ∃ m, min k (n - k) = m := ⟨_, rfl⟩
      have hm1 : 1 ≤ m := by omega
      have hm2 : k + m ≤ n := by omega
      have HM := hide hm
      clear hm
      have HN := hide (show (List.replicate m (Value.int .u64 (z : Int))).length = Nat.min k (n - k) from by rw [List.length_replicate]; exact HM.out.symm)
      have HFIT := hide (show k + (List.replicate m (Value.int .u64 (z : Int))).length ≤ cs.length from by rw [List.length_replicate, HL.out]; exact hm2)
      have HONE := hide (show ∀ v ∈ List.replicate m (Value.int .u64 (z : Int)), v.oneCell' = true from fun v hv => by rw [(List.mem_replicate.1 hv).2]; rfl)
      have HSRC := hide (show ∀ j v, (List.replicate m (Value.int .u64 (z : Int)))[j]? = some v → y.now.drew.cell? ((⟨G, 0, none⟩ : Addr).add j) = some v from fun j v hv => by
        rw [add_pl2, Nat.zero_add, (HA.out.grow (Grows.refl _).drew).cell]
        rw [List.getElem?_replicate] at hv
        split at hv
        · rename_i hj
          have hjk : j < k := by have := HM.out; omega
          have h1 : (cs.take k)[j]? = some (.int .u64 (z : Int)) := by rw [HT.out, List.getElem?_replicate, if_pos hjk]
          rw [List.getElem?_take, if_pos hjk] at h1
          rw [h1]; exact hv
        · cases hv)
      go_upto_region 9 with fail
      go_region_law (refine step_copy_splice rfl (.tmp 41) (.tmp 44) 29 29 rfl 26 Tryz.underlying29 HSZ.out (some ⟨G, k, none⟩) (some ⟨G, 0, none⟩) (n - k) (n - k) k n (by simp [Act.eval, Act.put]) (by simp [Act.eval, Act.put]) G k cs 26 (HA.out.grow GG).is (List.replicate m (Value.int .u64 (z : Int))) HN.out (fun _ => ⟨rfl, _, rfl, HSRC.out⟩) HFIT.out HONE.out w.heap.size w (y.grows.trans GG) hG ?_; intro w4 hg4 hb4)
      have HG4 := hide hg4
      have hmm : ((List.replicate m (Value.int .u64 (z : Int))).length : Int) = (m : Int) := by simp
      clear hg4
      simp [Act.put]
      simp (disch := omega) only [IntWalk.i64_in]
      go_wp2_with fail
      go_roundw
      case measure => simp [Go.RowKit.intOf]; omega
      case rel =>
        refine ⟨k + m, by omega, hm2, by go_num, ⟨w4, hb4⟩, rfl, splice cs k (List.replicate m (Value.int .u64 (z : Int))), ⟨HG4.out⟩, by rw [length_splice _ _ _ HFIT.out]; exact HL.out, ?_⟩
        unfold splice
        rw [HT.out, ← List.append_assoc, List.replicate_append_replicate, List.take_left' (by simp)]
    · go_wp2_with fail
      go_ret
      obtain rfl : k = n := by omega
      have e1 : cs = wv (List.replicate k z) := by
        have := HT.out
        rw [List.take_of_length_le (by rw [HL.out]; omega)] at this
        rw [this]; simp [wv]
      have hl := HL.out
      exact ⟨G, rfl, by have := HA.out.row (n := k) (size := 1) (by omega) (by omega); rw [e1] at this; exact this, hG, y.grows⟩
end Go.Proofs.YtkfobolbilhjbaaGreat

namespace Go.Proofs.YtkfobolbilhjbaaGreat
open Go Go.RowKit
attribute [local go_sem] Oper.semAt_some
set_option maxHeartbeats 1000000 in
theorem djWalk (g s o : Value) (N : Int) (A : Value) (hg : g = .agg #[.int .i64 N, A]) (s' : Int) (hs : s = .int .i64 s') (o1 o2 o3 o4 o5 : Value) (ho : o = .agg #[o1, o2, o3, o4, o5]) (w : World) : Calls Tryz.prog 63 #[g, s, o] w fun e w' =>
    ∃ b, e = .returned (.func (.func 76) #[] #[.pointer (some ⟨b, 0, none⟩), .pointer (some ⟨b + 1 + 1, 0, none⟩), .pointer (some ⟨b + 1, 0, none⟩)]) ∧ w.heap.size = b ∧
      Arr w' b 24 [.int .i64 N, A] ∧ Arr w' (b + 1) 3 [.int .i64 s'] ∧ Arr w' (b + 1 + 1) 50 [o1, o2, o3, o4, o5] ∧ Grows w w' := by
  subst hg hs ho
  go_enter Tryz.func63, Tryz.ntmps63
  go_wp2
  go_ret
  refine ⟨w.heap.size, rfl, rfl, ⟨by simp [heap_push, Array.getElem_push, Array.getElem?_push, eq_add2]⟩, ⟨by simp [heap_push, Array.getElem_push]⟩, ⟨by simp [heap_push, Array.getElem_push]⟩, GG⟩
abbrev farV : Nat := 4611686018427387904
def outL (N : Nat) (xs : List (Nat × Nat)) : List Nat := xs.foldl (fun L p => L.set p.1 p.2) (List.replicate N farV)
theorem outL_snoc (N : Nat) (xs : List (Nat × Nat)) (p : Nat × Nat) : outL N (xs ++ [p]) = (outL N xs).set p.1 p.2 := by simp [outL, List.foldl_append]
theorem outL_len (N : Nat) (xs : List (Nat × Nat)) : (outL N xs).length = N := by
  unfold outL
  suffices h : ∀ L : List Nat, (xs.foldl (fun L p => L.set p.1 p.2) L).length = L.length by rw [h]; simp
  induction xs with
  | nil => intro L; rfl
  | cons p xs ih => intro L; rw [List.foldl_cons, ih, List.length_set]
def AllI (w : World) (lo b9 go N : Nat) (p : List (Nat × Nat)) (Mi : Nat → Prop) (W : World) : Prop :=
  (∃ y : Later w, W = y.now) ∧ Arr W b9 29 [.slice (some ⟨go, 0, none⟩) N N] ∧ Row1 W go 26 1 N N (wv (outL N p)) ∧ (∀ k, Mi k → lo ≤ k ∧ k < W.heap.size) ∧ lo ≤ W.heap.size
theorem AllI.yields {w : World} {lo b9 go N : Nat} (h1 : b9 < lo) (h2 : go < lo) (hlo : w.heap.size ≤ lo) : Yields' (AllI w lo b9 go N) := by
  rintro p Mi W Mi' W' ⟨⟨y, rfl⟩, a1, a2, a3, a4⟩ ht hM'
  refine ⟨⟨⟨W', ht.later y.grows (fun k hk => Nat.le_trans hlo (a3 k hk).1)⟩, rfl⟩, a1.touch ht (fun e => by have := (a3 _ e).1; omega), a2.touch ht (fun e => by have := (a3 _ e).1; omega), fun k hk => ?_, Nat.le_trans a4 ht.size⟩
  obtain ⟨h | h, h'⟩ := hM' k hk
  · exact ⟨(a3 k h).1, h'⟩
  · exact ⟨by omega, h'⟩
def FrameAll (b9 v far : Nat) (a' : Act) : Prop := ∃ u0 u1 u2 u3 u4 u5 u6 u7 u8 u12 u13 u14 u15 u16 u17 u18 u19 u20 u21 u22 u23 u24 u25 u26 u27 u28 u29 u30 u31 u32 u33 : Value, a' = { tmps := #[u0, u1, u2, u3, u4, u5, u6, u7, u8, .pointer (some ⟨b9, 0, none⟩), .int .i64 (v : Int), .int .u64 (far : Int), u12, u13, u14, u15, u16, u17, u18, u19, u20, u21, u22, u23, u24, u25, u26, u27, u28, u29, u30, u31, u32, u33], defers := [] }
def AllB (w : World) (lo b9 go N : Nat) (x : Nat × Nat) (a' : Act) (p : List (Nat × Nat)) (Mi : Nat → Prop) (W : World) : Prop := FrameAll b9 x.1 x.2 a' ∧ AllI w lo b9 go N p Mi W
set_option maxRecDepth 40000 in
set_option maxHeartbeats 8000000 in
theorem djAll (N s : Nat) (A : Option Addr) (c : Nat) (E : List Edg) (o : DOpt) (An Ae Aw : Option Addr) (cn ce cw : Nat) (xs : List (Nat × Nat)) (w : World) (h : Rd w A 3 E.length (esCells E)) (h2 : Rd w An 1 o.nn.length (o.nn.map (.int .i64))) (h3 : Rd w Ae 1 o.ne.length (o.ne.map (.int .i64))) (h4 : Rd w Aw 1 o.W.length (wv o.W))
    (hok : WalkOk N s E o) (hd : dcF N s E o.W = 0) (hxs : if (s : Int) ∈ o.nn then xs = [] else Trace (srchOf N E o) (reachS o.most (st0 N) s 0) xs) (hx : ∀ p, p ∈ xs → p.1 < N) :
    Calls Tryz.prog 49 #[.agg #[.int .i64 (N : Int), .slice A E.length c], .int .i64 (s : Int), oVal o.back (.slice An o.nn.length cn) (.slice Ae o.ne.length ce) Aw o.W.length cw o.most] w fun e w' =>
      ∃ go, e = .returned (.tuple #[.slice (some ⟨go, 0, none⟩) N N, .int .i64 0]) ∧ Row1 w' go 26 1 N N (wv (outL N xs)) ∧ w.heap.size ≤ go ∧ Grows w w' := by
  unfold oVal
  obtain ⟨r1, r2, r3, r4, r5⟩ := right_in hok.right
  have r2' : N ≤ 4096 := by omega
  have r1' : 1 ≤ N := by omega
  have C1 := hide (fun (W : World) (g : Grows w W) => djCheck (N : Int) s A E.length c E o.back (.slice An o.nn.length cn) (.slice Ae o.ne.length ce) Aw o.W.length cw o.most o.W W (h.grows g) (h4.grows g) (by omega) (by have := hok.wts; omega))
  rw [hd] at C1
  unfold oVal at C1
  have C2 := hide (fun (W : World) (g : Nat) (hh : Holds W ⟨g, 0, none⟩ (.int .u64 ((4611686018427387904 : Nat) : Int))) => repeatU g 1 4611686018427387904 N W hh r1' (by omega))
  have C3 := hide (fun (W : World) => djWalk (.agg #[.int .i64 (N : Int), .slice A E.length c]) (.int .i64 (s : Int)) (.agg #[.bool o.back, .slice An o.nn.length cn, .slice Ae o.ne.length ce, .slice Aw o.W.length cw, .int .u64 (o.most : Int)]) (N : Int) (.slice A E.length c) rfl (s : Int) rfl _ _ _ _ _ rfl W)
  have HM := hide (And.intro h (And.intro h2 (And.intro h3 h4)))
  have HOK := hide hok
  have HXS := hide hxs
  have HX := hide hx
  clear h h2 h3 h4 hok hxs hx hd r1 r2 r3 r4 r5
  refine calls_of_marks Tryz.func49 rfl ?_
  simp only [Tryz.ntmps49, List.size_toArray, List.length_cons, List.length_nil, Nat.reduceAdd, Nat.reduceSub, Array.replicate_succ, Array.replicate_zero, List.push_toArray, List.append_toArray, List.nil_append, List.cons_append]
  go_wp2_with fail
  refine (C1.out _ GG).mono ?_; rintro e w' ⟨rfl, hg⟩; obtain ⟨x1, rfl⟩ := hg.later; clear hg
  go_wp2_with fail
  refine (C2.out _ _ inferInstance).mono ?_; rintro e w' ⟨go, rfl, hrow, hgo, hg⟩; obtain ⟨x2, rfl⟩ := Grows.later2 (((Grows.refl x1.now).new _).trans hg); have HROW := hide hrow; clear hrow hg
  go_wp2_with fail
  refine (C3.out _).mono ?_; rintro e W0 ⟨b, rfl, hb, z1, z2, z3, hg⟩
  obtain ⟨b9, hb9⟩ : ∃ b9, x2.now.heap.size = b9 := ⟨_, rfl⟩
  have hbb : b = b9 + 1 := by rw [← hb]; simp [hb9]
  have q9 : Arr W0 b9 29 [.slice (some ⟨go, 0, none⟩) N N] := by rw [← hb9]; exact (Arr.make _ _ _).grow hg
  have qgo : Row1 W0 go 26 1 N N (wv (outL N [])) := (HROW.out.grow ((Grows.refl _).new _)).grow hg
  have hgo1 : w.heap.size ≤ go := by have := x1.size; simp at this hgo; omega
  have hgo2 : go < b9 := by rw [← hb9]; exact HROW.out.lt
  have hgw : Grows w W0 := Grows.trans (Grows.trans (by show Grows w x2.now; exact GG) ((Grows.refl _).new _)) hg
  have hW0 := z3.lt
  rw [hb9]
  have hsz0 := hgw.size
  clear hb hg HROW hgo hb9 C1 C2 C3
  have hwalk : WalkAt (fun k => k < w.heap.size ∨ (b ≤ k ∧ k ≤ b + 1 + 1)) W0 b (b + 1 + 1) (b + 1) N s E o := by
    obtain ⟨h1, h2, h3, h4⟩ := HM.out
    exact ⟨A, c, An, cn, Ae, ce, Aw, cw, z1, z3, z2, h1.grows hgw, h2.grows hgw, h3.grows hgw, h4.grows hgw, .inr ⟨by omega, by omega⟩, .inr ⟨by omega, by omega⟩, .inr ⟨by omega, by omega⟩, fun h p hp => .inl (h1.block_lt (by omega) h p hp), fun h p hp => .inl (h2.block_lt (by omega) h p hp), fun h p hp => .inl (h3.block_lt (by omega) h p hp), fun h p hp => .inl (h4.block_lt (by omega) h p hp)⟩
  have HGV := hide (djWalk1 (fun k => k < w.heap.size ∨ (b ≤ k ∧ k ≤ b + 1 + 1)) (fun k => k < w.heap.size ∨ (b ≤ k ∧ k ≤ b + 1 + 1)) (fun _ => False) b (b + 1 + 1) (b + 1) N s E o xs W0 hwalk (fun k hk => .inl hk) (fun k hk => hk.elim) (fun k hk => by rcases hk with hk | hk <;> omega) HOK.out HXS.out)
  have H0 := hide (show AllI w W0.heap.size b9 go N [] (fun _ => False) W0 from ⟨⟨⟨W0, hgw⟩, rfl⟩, q9, qgo, fun k hk => hk.elim, Nat.le_refl _⟩)
  have hIy := AllI.yields (w := w) (lo := W0.heap.size) (b9 := b9) (go := go) (N := N) (by omega) (by omega) hsz0
  have hbg : go < b := by omega
  have hBW : ∀ k, (k < w.heap.size ∨ (b ≤ k ∧ k ≤ b + 1 + 1)) → k < W0.heap.size := fun k hk => by rcases hk with hk | hk <;> omega
  clear hwalk q9 qgo z1 z2 z3 HM HXS HOK hbb
  go_wp2_with fail
  refine (wpIn_wide (n := 0)).1 ?_
  have hGV := HGV.out
  have h0 := H0.out
  clear HGV H0
  refine wp_rangeG (w0 := W0) (gf := 76) rfl (enters_of Tryz.func76 (by kernel_rfl) rfl) hGV (Keeps.refl _ _ _) hBW (fun k hk => hk.elim) (fun _ => rfl)
    (AllI w W0.heap.size b9 go N) (fun _ _ _ _ => False) hIy (fun c _ _ _ _ _ h _ _ => h.elim) h0 (AllB w W0.heap.size b9 go N) ?hIb ?assign ?body ?done ?stop
  case hIb =>
    rintro x a' p Mi W1 Mi' W' ⟨hf, hI⟩ ht hM'
    exact ⟨hf, hIy p Mi W1 Mi' W' hI ht hM'⟩
  case assign =>
    intro l2 p x rest Mi W1 hsp hI
    have HI := hide hI
    clear hI
    unfold encD
    gi_wp2
    refine ⟨⟨?_, HI.out⟩, Keeps.refl _ _ _⟩
    unfold FrameAll
    (repeat apply Exists.intro)
    rfl
  case body =>
    rintro l2 p ⟨v, far⟩ rest Mi a' W1 hsp hl2 hMl hrec ⟨⟨u0, u1, u2, u3, u4, u5, u6, u7, u8, u12, u13, u14, u15, u16, u17, u18, u19, u20, u21, u22, u23, u24, u25, u26, u27, u28, u29, u30, u31, u32, u33, rfl⟩, ⟨⟨y, rfl⟩, ha, hr, hm, hlo⟩⟩
    have hv : v < N := HX.out (v, far) (by rw [hsp]; simp)
    have m0 : Mine y.now ⟨go, v, none⟩ (.int .u64 (gn (outL N p) v : Int)) := hr.mine (wv_at (by rw [outL_len]; exact hv))
    have HR := hide hr
    have HMM := hide hm
    have HSN := hide (outL_snoc N p (v, far))
    clear hsp hl2 hMl hrec hr hm h0 hIy hGV HX
    simp only at ha m0 ⊢
    generalize gn (outL N p) v = old at *
    gi_wp2
    have hne : b9 ≠ go := by omega
    refine ⟨((Touch.refl _ _).set (.inl ?_) _), ⟨⟨_, y.grows.set hgo1 _⟩, rfl⟩, ha.other (Ne.symm hne) _, ?_, fun k hk => ?_, ?_⟩
    · rintro ((h | h) | h)
      · have h : go < w.heap.size := h
        omega
      · have h : b ≤ go ∧ go ≤ b + 1 + 1 := h
        omega
      · have h : W0.heap.size ≤ go := (HMM.out _ h).1
        omega
    · rw [HSN.out, ← wv_set]
      exact HR.out.set _ _
    · rw [size_setCell]; exact HMM.out k hk
    · rw [size_setCell]; exact hlo
  case done =>
    intro D Mi W1 hlD hMD hI hDW
    obtain ⟨⟨y, rfl⟩, ha, hr, hm, hlo⟩ := hI
    have HR := hide hr
    have HMM := hide hm
    have HDW := hide hDW
    clear hr hm hDW hIy h0 hGV
    gi_wp2
    go_wp2_with fail
    refine marks_ret [D] rfl ((Marks.nil _).cons HDW.out (by simp)) (fun W' htt => ⟨_, results_tmp2 rfl _ _ _, go, rfl, HR.out.touch htt (fun e => ?_), hgo1, htt.later y.grows (fun k hk => ?_)⟩)
    · have := List.mem_singleton.1 e
      omega
    · have := List.mem_singleton.1 hk
      omega
  case stop =>
    intro D c p i rest Mi W1 _ _ _ h _
    exact h.elim
end Go.Proofs.YtkfobolbilhjbaaGreat

namespace Go.Proofs.YtkfobolbilhjbaaGreat
open Go Go.RowKit
theorem set_fold (xs : List (Nat × Nat)) : ∀ (L : List Nat) (v f : Nat), v < L.length → (xs.map Prod.fst).Nodup → (v, f) ∈ xs → gn (xs.foldl (fun L p => L.set p.1 p.2) L) v = f := by
  suffices keep : ∀ (xs : List (Nat × Nat)) (L : List Nat) (v : Nat), v ∉ xs.map Prod.fst → gn (xs.foldl (fun L p => L.set p.1 p.2) L) v = gn L v by
    induction xs with
    | nil => intro L v f _ _ h; cases h
    | cons p xs ih =>
      intro L v f hv hn hm
      rw [List.map_cons, List.nodup_cons] at hn
      rw [List.foldl_cons]
      rcases List.mem_cons.1 hm with h | h
      · rw [keep xs _ v (by have := hn.1; rw [← h] at this; exact this), ← h]
        simp [gn, hv]
      · exact ih _ v f (by simpa using hv) hn.2 h
  intro xs
  induction xs with
  | nil => intro L v _; rfl
  | cons p xs ih =>
    intro L v hv
    rw [List.map_cons, List.mem_cons, not_or] at hv
    rw [List.foldl_cons, ih _ v hv.2]
    simp [gn, Ne.symm hv.1]
theorem outL_at {N v f : Nat} {xs : List (Nat × Nat)} (hn : (xs.map Prod.fst).Nodup) (hv : v < N) (h : (v, f) ∈ xs) : gn (outL N xs) v = f := set_fold xs _ v f (by simpa using hv) hn h
theorem outL_no {N v : Nat} {xs : List (Nat × Nat)} (hv : v < N) (h : v ∉ xs.map Prod.fst) : gn (outL N xs) v = farV := by
  unfold outL
  suffices keep : ∀ (xs : List (Nat × Nat)) (L : List Nat) (v : Nat), v ∉ xs.map Prod.fst → gn (xs.foldl (fun L p => L.set p.1 p.2) L) v = gn L v by
    rw [keep xs _ v h]
    simp [gn, hv]
  intro xs
  induction xs with
  | nil => intro L v _; rfl
  | cons p xs ih =>
    intro L v hv
    rw [List.map_cons, List.mem_cons, not_or] at hv
    rw [List.foldl_cons, ih _ v hv.2]
    simp [gn, Ne.symm hv.1]
theorem outL_cases {x : Srch} {s mw v : Nat} {xs : List (Nat × Nat)} (h : Far x s mw xs) (hb : x.N * mw < farV) (hv : v < x.N) :
    ((v, gn (outL x.N xs) v) ∈ xs ∧ gn (outL x.N xs) v < farV) ∨ (gn (outL x.N xs) v = farV ∧ ∀ f, (v, f) ∉ xs) := by
  by_cases hm : v ∈ xs.map Prod.fst
  · obtain ⟨⟨u, f⟩, hp, rfl⟩ := List.mem_map.1 hm
    have e := outL_at h.nodup hv hp
    simp only at e
    refine .inl ?_
    simp only
    rw [e]
    exact ⟨hp, by have := (h.way _ _ hp).2.2.2; omega⟩
  · exact .inr ⟨outL_no hv hm, fun f hf => hm (List.mem_map.2 ⟨_, hf, rfl⟩)⟩
theorem Far.one {x : Srch} {s mw v f g : Nat} {xs : List (Nat × Nat)} (h : Far x s mw xs) (h1 : (v, f) ∈ xs) (h2 : (v, g) ∈ xs) : f = g := by
  have hv := (h.way _ _ h1).1
  rw [← outL_at h.nodup hv h1, ← outL_at h.nodup hv h2]
theorem Far.edge {x : Srch} {s mw i : Nat} {xs : List (Nat × Nat)} (h : Far x s mw xs) (hb : x.N * mw < farV) (hm : x.most = 0) (hu : nN x.E x.back i < x.N) (ht : toE x i < x.N) (hi : i < x.E.length) (hc : cntE x i = true) (hf : gn (outL x.N xs) (nN x.E x.back i) < farV) :
    gn (outL x.N xs) (toE x i) ≤ gn (outL x.N xs) (nN x.E x.back i) + gn x.W i := by
  rcases outL_cases h hb hu with ⟨h1, _⟩ | ⟨h1, _⟩
  · have hw := (h.way _ _ h1).2.1
    obtain ⟨g, hg, hle⟩ := h.all _ _ (hw.step hi hc) (fun h => by omega)
    rw [outL_at h.nodup ht hg]
    exact hle
  · omega
theorem Far.by_ {x : Srch} {s mw v : Nat} {xs : List (Nat × Nat)} (h : Far x s mw xs) (hb : x.N * mw < farV) (hm : x.most = 0) (hn : ∀ i, i < x.E.length → nN x.E x.back i < x.N) (hv : v < x.N) (hvs : v ≠ s) (hf : gn (outL x.N xs) v < farV) :
    ∃ i, i < x.E.length ∧ toE x i = v ∧ gn (outL x.N xs) (nN x.E x.back i) < farV ∧ gn (outL x.N xs) v = gn (outL x.N xs) (nN x.E x.back i) + gn x.W i := by
  rcases outL_cases h hb hv with ⟨h1, _⟩ | ⟨h1, _⟩
  · obtain ⟨f, hfe⟩ : ∃ f, gn (outL x.N xs) v = f := ⟨_, rfl⟩
    rw [hfe] at h1 hf ⊢
    have hw := (h.way _ _ h1).2.1
    cases hw with
    | here => exact absurd rfl hvs
    | @step f' i hw hi hc =>
      obtain ⟨g, hg, hle⟩ := h.all _ _ hw (fun h => by omega)
      have hwg := (h.way _ _ hg).2.1
      obtain ⟨g2, hg2, hle2⟩ := h.all _ _ (hwg.step hi hc) (fun h => by omega)
      have e := h.one hg2 h1
      have e2 := outL_at h.nodup (hn i hi) hg
      exact ⟨i, hi, rfl, by rw [e2]; omega, by rw [e2]; omega⟩
  · omega
theorem Far.begin_ {x : Srch} {s mw : Nat} {xs : List (Nat × Nat)} (h : Far x s mw xs) (hs : s < x.N) : gn (outL x.N xs) s = 0 := by
  obtain ⟨g, hg, hle⟩ := h.all s 0 .here (fun _ => Nat.zero_le _)
  rw [outL_at h.nodup hs hg]
  omega
theorem Way.trans {x : Srch} {a b c f g : Nat} (h : Way x a b f) (k : Way x b c g) : Way x a c (f + g) := by
  induction k with
  | here => exact h
  | step k hi hc ih =>
    rw [← Nat.add_assoc]
    exact ih.step hi hc
def turnX (x : Srch) : Srch := { x with back := !x.back }
theorem Way.turned {x : Srch} (hc : ∀ i, i < x.E.length → cntE (turnX x) i = true) {a b f : Nat} (h : Way x a b f) : Way (turnX x) b a f := by
  induction h with
  | here => exact .here
  | @step f i h hi hcn ih =>
    have h1 : nN (turnX x).E (turnX x).back i = toE x i := by
      unfold nN toE turnX
      cases x.back <;> rfl
    have h2 : toE (turnX x) i = nN x.E x.back i := by
      unfold nN toE turnX
      cases x.back <;> rfl
    have h3 := Way.step (x := turnX x) (s := toE x i) (f := 0) (i := i) (by rw [h1]; exact .here) hi (hc i hi)
    rw [h2, Nat.zero_add] at h3
    have := h3.trans ih
    rw [Nat.add_comm] at this
    exact this
theorem Far.turned {x : Srch} {s t mw : Nat} {xs ys : List (Nat × Nat)} (h : Far x s mw xs) (k : Far (turnX x) t mw ys) (hb : x.N * mw < farV) (hm : x.most = 0) (hc : ∀ i, i < x.E.length → cntE (turnX x) i = true) (hc2 : ∀ i, i < x.E.length → cntE x i = true) (hs : s < x.N) (ht : t < x.N) :
    gn (outL x.N ys) s = gn (outL x.N xs) t := by
  have tt : turnX (turnX x) = x := by unfold turnX; cases x; simp
  have back : ∀ {f}, Way (turnX x) t s f → Way x s t f := fun {f} h => by
    have := Way.turned (x := turnX x) (by rw [tt]; exact hc2) h
    rw [tt] at this
    exact this
  have hm2 : (turnX x).most = 0 := hm
  rcases outL_cases h hb ht with ⟨h1, h2⟩ | ⟨h1, h2⟩
  · have hw := (h.way _ _ h1).2.1
    obtain ⟨g, hg, hle⟩ := k.all _ _ (Way.turned hc hw) (fun h => by omega)
    have hw2 := back (k.way _ _ hg).2.1
    obtain ⟨g2, hg2, hle2⟩ := h.all _ _ hw2 (fun h => by omega)
    have e := h.one hg2 h1
    have e2 := outL_at (N := x.N) k.nodup hs hg
    omega
  · rw [h1]
    refine outL_no hs (fun hmem => ?_)
    obtain ⟨⟨u, f⟩, hp, rfl⟩ := List.mem_map.1 hmem
    have hw2 := back (k.way _ _ hp).2.1
    obtain ⟨g2, hg2, _⟩ := h.all _ _ hw2 (fun h => by omega)
    exact h2 g2 hg2
theorem Way.ge {x : Srch} {s : Nat} (d : Nat → Nat) (h0 : d s = 0) (hd : ∀ i, i < x.E.length → d (toE x i) ≤ d (nN x.E x.back i) + gn x.W i) {v f : Nat} (h : Way x s v f) : d v ≤ f := by
  induction h with
  | here => omega
  | step h hi hc ih =>
    have := hd _ hi
    omega
end Go.Proofs.YtkfobolbilhjbaaGreat

namespace Go.Proofs.YtkfobolbilhjbaaGreat
open Go Go.RowKit
def lightG (N : Int) (n : Nat) : Bool := decide ((N ≤ 100 ∨ 4096 < N) ∧ n ≤ 300)
set_option maxHeartbeats 400000 in
theorem lLight (N : Int) (A : Option Addr) (n c : Nat) (w : World) : Calls Tryz.prog 25 #[.agg #[.int .i64 N, .slice A n c]] w fun e w' => e = .returned (.bool (lightG N n)) ∧ Grows w w' := by
  go_enter Tryz.func25, Tryz.ntmps25
  go_wp2
  all_goals go_ret
  all_goals exact ⟨ret_bool (bool_ext (by unfold lightG; simp; try omega)), GG⟩

end Go.Proofs.YtkfobolbilhjbaaGreat

namespace Go.Proofs.YtkfobolbilhjbaaGreat
open Go Go.RowKit
theorem Far.is {x : Srch} {s mw v f : Nat} {xs : List (Nat × Nat)} (h : Far x s mw xs) (hm : x.most = 0) (hv : v < x.N) (h1 : Way x s v f) (h2 : ∀ g, Way x s v g → f ≤ g) : gn (outL x.N xs) v = f := by
  obtain ⟨g, hg, hle⟩ := h.all _ _ h1 (fun h => by omega)
  have := h2 g (h.way _ _ hg).2.1
  rw [outL_at h.nodup hv hg]
  omega
theorem walk_is {N s mw : Nat} {E : List Edg} {o : DOpt} (hok : WalkOk N s E o) (hw : ∀ i, i < E.length → 1 ≤ gn (wtF N E o.W) i ∧ gn (wtF N E o.W) i ≤ mw) (hmw : mw ≤ 17592186044416) (hnn : (s : Int) ∉ o.nn) :
    ∃ xs, (if (s : Int) ∈ o.nn then xs = [] else Trace (srchOf N E o) (reachS o.most (st0 N) s 0) xs) ∧ Far (srchOf N E o) s mw xs ∧ ∀ p, p ∈ xs → p.1 < N := by
  have hs := hok.srch
  have hin : SrchIn (srchOf N E o) mw := ⟨fun i hi => by
    have h1 := hs.ends.f i hi
    have h2 := hs.ends.t i hi
    unfold toE
    split
    · exact h1.1
    · exact h2.1, fun i hi => (hw i hi).1, fun i hi => (hw i hi).2⟩
  obtain ⟨xs, h1, h2⟩ := trace_whole (x := srchOf N E o) (s := s) hin hs.nodes hok.node (by omega)
  refine ⟨xs, by rw [if_neg hnn]; exact h1, h2, fun p hp => ?_⟩
  obtain ⟨v, f⟩ := p
  exact (h2.way v f hp).1
def light14 (N : Int) (n : Nat) (a b c : Nat) : Bool := lightG N n && decide (a ≤ 100) && decide (b ≤ 100) && decide (c ≤ 400)
set_option maxHeartbeats 1000000 in
theorem lLight14 (N : Int) (A : Option Addr) (n c : Nat) (back : Bool) (An Ae Aw : Option Addr) (a ca b cb nw cw most : Nat) (w : World) : Calls Tryz.prog 13 #[.agg #[.int .i64 N, .slice A n c], oVal back (.slice An a ca) (.slice Ae b cb) Aw nw cw most] w fun e w' => e = .returned (.bool (light14 N n a b nw)) ∧ Grows w w' := by
  unfold oVal
  have C := hide (fun (W : World) => lLight N A n c W)
  have HD : Hid (light14 N n a b nw = (lightG N n && decide (a ≤ 100) && decide (b ≤ 100) && decide (nw ≤ 400))) := rfl
  generalize light14 N n a b nw = r at *
  generalize lightG N n = q at *
  go_enter Tryz.func13, Tryz.ntmps13
  go_wp2_with (go_at_call 25; refine (C.out _).mono ?_; rintro e w' ⟨rfl, hg⟩; obtain ⟨x1, rfl⟩ := hg.later; clear hg)
  all_goals go_ret
  all_goals exact ⟨ret_bool (by rw [HD.out]; apply bool_ext; simp_all; try omega), GG⟩
end Go.Proofs.YtkfobolbilhjbaaGreat

namespace Go.Proofs.YtkfobolbilhjbaaGreat
open Go Go.ChangeShapes Go.WideShapes Go.ChangeAt Go.RowKit Go.Deep
theorem wv_of {z : List Int} (h : ∀ x ∈ z, (Lit.int .u64 x).wf = true) : z.map (Value.int .u64) = wv (z.map Int.toNat) := by
  unfold wv
  rw [List.map_map]
  refine List.map_congr_left fun x hx => ?_
  have := wf_u64 (h x hx)
  unfold U64 at this
  show Value.int .u64 x = .int .u64 ((x.toNat : Nat) : Int)
  rw [Int.toNat_of_nonneg this.1]
theorem dc_ok {N s : Int} {E : List Edg} {W : List Nat} (h : dcF N s E W = 0) : rightF N E = 0 ∧ 0 ≤ s ∧ s < N ∧ (W.length = 0 ∨ W.length = E.length) ∧ ∀ i, i < E.length → 1 ≤ gn (wtF N E W) i ∧ gn (wtF N E W) i ≤ 17592186044416 := by
  unfold dcF at h
  split at h
  · cases h
  split at h
  · cases h
  split at h
  · cases h
  split at h
  · cases h
  rename_i h1 h2 h3 h4
  have h1 : rightF N E = 0 := by omega
  have hb : nodeB N s = true := by cases hb : nodeB N s with | false => exact absurd hb h2 | true => rfl
  unfold nodeB at hb
  have hs := of_decide_eq_true hb
  obtain ⟨r1, r2, r3, r4, r5⟩ := right_in h1
  refine ⟨h1, hs.1, hs.2, by omega, fun i hi => ?_⟩
  unfold wtF
  rw [if_neg (by omega), if_neg h3]
  split
  · have hl : i < W.length := by omega
    have hm : gn W i ∈ W := by unfold gn; rw [List.getD_eq_getElem?_getD, List.getElem?_eq_getElem hl]; exact List.getElem_mem hl
    have : penB (gn W i) = false := by
      cases hp : penB (gn W i) with
      | false => rfl
      | true => exact absurd (List.any_eq_true.2 ⟨_, hm, hp⟩) h4
    unfold penB at this
    have := of_decide_eq_false this
    omega
  · have := r5 i hi
    have h2 : gn (eW E) i = (ge E i).w.toNat := by simp [gn, eW, ge, hi]
    rw [h2]
    omega
section
variable {H : Type} {enc : TypeId × Value → H} {P : Program} {w : World} {base b0 : Nat} {held : Bool} {r : Reach} {t : TypeId} {v : Value} {d : DataW H} {p : List MemPlace}
end
end Go.Proofs.YtkfobolbilhjbaaGreat

