/- Contract: the way that is followed, by the least edge that leads nearer. -/
import Derived.ScopeJumps
import Derived.Test.YtkfobolbilhjbaaGreatQFlowRounds04
import Derived.Test.YtkfobolbilhjbaaGreatQFlowRounds07
import Derived.Test.YtkfobolbilhjbaaGreatQFlowRounds10
import Derived.Test.YtkfobolbilhjbaaGreatQFlowRounds13
namespace Go.Proofs.YtkfobolbilhjbaaGreat
open Go Go.RowKit
attribute [local go_sem] Oper.semAt_some
theorem run_store_fn {P : Program} {w : World} {a : Addr} {m : Mode} (fn : Fn) (first captured : Array Value) : (store a (.func fn first captured) m).run P w = stored P w a (.func fn first captured) m := run_store P w a _ m rfl
attribute [local go_sem] run_store_fn
section
variable {P : Program} {a : Act} {w : World} {Q : Exit → Act → World → Prop}
theorem wp_scope_m {c rest : Code} (l : Nat) (J : Nat → Act → World → Prop) (hf : findLabel c l = some (Code.skip.seq rest))
    (pass : ∀ m a w, J m a w → rest.wp P (Exit.jump l (fun a' w' => ∃ m', m' < m ∧ J m' a' w') Q) a w)
    (first : (∀ m a w, J m a w → rest.wp P (Exit.jump l (fun a w => ∃ m, J m a w) Q) a w) → c.wp P (Exit.jump l (fun a w => ∃ m, J m a w) Q) a w) : (Code.scope c).wp P Q a w := by
  obtain ⟨μ, hμ⟩ := least_fn J
  refine wp_scope_jumps l (fun a w => ∃ m, J m a w) μ hf (first fun m a w h => ?_) fun a w h => wp_seq (wp_skip ?_)
  · refine wp_mono (pass m a w h) fun e a' w' hq => ?_
    cases e <;> first | exact hq | skip
    obtain ⟨rfl, m', h1, h2⟩ := hq
    exact ⟨rfl, m', h2⟩
  · refine wp_mono (pass _ a w (hμ a w h).1) fun e a' w' hq => ?_
    cases e <;> first | exact hq | skip
    obtain ⟨rfl, m', h1, h2⟩ := hq
    exact ⟨rfl, ⟨m', h2⟩, Nat.lt_of_le_of_lt ((hμ a' w' ⟨m', h2⟩).2 m' h2) h1⟩
end
def FolS (w : World) (lo b6 b7 b8 b9 b10 b11 : Nat) (x7 x8 x11 : Value) (l9 : List Value) (f v : Nat) (A : Option Addr) (c : Nat) (pre : List Nat) (W : World) : Prop :=
  (∃ y : Later w, W = y.now) ∧ (Arr W b6 3 [.int .i64 (v : Int)] ∧ Arr W b7 29 [x7] ∧ Arr W b8 29 [x8] ∧ Arr W b9 50 l9 ∧ Arr W b10 69 [.slice A pre.length c, .int .u64 (f : Int)] ∧ Arr W b11 119 [x11]) ∧ Own W lo 3 1 A pre.length c (nv pre) ∧ lo ≤ W.heap.size
def FolB (w : World) (lo b6 b7 b8 b9 b10 b11 : Nat) : Prop := w.heap.size ≤ b6 ∧ b6 < b7 ∧ b7 < b8 ∧ b8 < b9 ∧ b9 < b10 ∧ b10 < b11 ∧ b11 < lo
theorem FolS.touch {w W W' : World} {lo b6 b7 b8 b9 b10 b11 : Nat} {x7 x8 x11 : Value} {l9 : List Value} {f v : Nat} {A : Option Addr} {c : Nat} {pre : List Nat} {S : Nat → Prop} (hb : FolB w lo b6 b7 b8 b9 b10 b11)
    (h : FolS w lo b6 b7 b8 b9 b10 b11 x7 x8 x11 l9 f v A c pre W) (ht : Touch S W W') (hS : ∀ k, S k → lo ≤ k) (hA : ∀ q, A = some q → ¬ S q.block) : FolS w lo b6 b7 b8 b9 b10 b11 x7 x8 x11 l9 f v A c pre W' := by
  obtain ⟨⟨y, rfl⟩, ⟨a6, a7, a8, a9, a10, a11⟩, ho, hl⟩ := h
  obtain ⟨h0, h1, h2, h3, h4, h5, h6⟩ := hb
  have nb : ∀ k, k < lo → ¬ S k := fun k hk e => by have := hS _ e; omega
  exact ⟨⟨⟨W', ht.later y.grows (fun k hk => by have := hS k hk; omega)⟩, rfl⟩, ⟨a6.touch ht (nb _ (by omega)), a7.touch ht (nb _ (by omega)), a8.touch ht (nb _ (by omega)), a9.touch ht (nb _ (by omega)), a10.touch ht (nb _ (by omega)), a11.touch ht (nb _ (by omega))⟩, ho.touch ht hA, Nat.le_trans hl ht.size⟩
def FolI (FS : World → Prop) (lo2 : Nat) (Ds : List Nat) (nb : Nat → Bool) (p : List Nat) (Mi : Nat → Prop) (W : World) : Prop := FS W ∧ Marks Ds W ∧ (∀ k, Mi k → lo2 ≤ k ∧ k < W.heap.size) ∧ lo2 ≤ W.heap.size ∧ ∀ j ∈ p, nb j = false
theorem FolI.yields {FS : World → Prop} {lo2 : Nat} {Ds : List Nat} {nb : Nat → Bool} (hF : ∀ S W W', FS W → Touch S W W' → (∀ k, S k → lo2 ≤ k) → FS W') (hD : ∀ D ∈ Ds, D < lo2) : Yields' (FolI FS lo2 Ds nb) := by
  rintro p Mi W Mi' W' ⟨h1, h2, h3, h4, h5⟩ ht hM'
  refine ⟨hF Mi W W' h1 ht (fun k hk => (h3 k hk).1), h2.touch ht (fun D hD2 e => by have := hD D hD2; have := (h3 D e).1; omega), fun k hk => ?_, Nat.le_trans h4 ht.size, h5⟩
  obtain ⟨h | h, h'⟩ := hM' k hk
  · exact ⟨(h3 k h).1, h'⟩
  · exact ⟨by omega, h'⟩
def FolX (FS : Option Addr → Nat → World → Prop) (lo lo2 : Nat) (Ds : List Nat) (cd : Code) (_ : List Nat) (Mi : Nat → Prop) (W : World) : Prop :=
  cd = .goto 0 ∧ (∃ A c, FS A c W ∧ (∀ q, A = some q → ¬ Mi q.block ∧ q.block ∉ Ds ∧ q.block < W.heap.size)) ∧ Marks Ds W ∧ (∀ k, Mi k → lo2 ≤ k ∧ k < W.heap.size) ∧ lo2 ≤ W.heap.size ∧ lo ≤ lo2
theorem FolX.yields {FS : Option Addr → Nat → World → Prop} {lo lo2 : Nat} {Ds : List Nat} (hF : ∀ A c S W W', FS A c W → Touch S W W' → (∀ k, S k → lo ≤ k) → (∀ q, A = some q → ¬ S q.block) → FS A c W') (hD : ∀ D ∈ Ds, D < lo2) (cd : Code) : Yields' (FolX FS lo lo2 Ds cd) := by
  rintro p Mi W Mi' W' ⟨h0, ⟨A, c, h1, hq⟩, h2, h3, h4, h5⟩ ht hM'
  refine ⟨h0, ⟨A, c, hF A c Mi W W' h1 ht (fun k hk => by have := (h3 k hk).1; omega) (fun q h => (hq q h).1), fun q h => ⟨fun e => ?_, (hq q h).2.1, Nat.lt_of_lt_of_le (hq q h).2.2 ht.size⟩⟩, h2.touch ht (fun D hD2 e => by have := hD D hD2; have := (h3 D e).1; omega), fun k hk => ?_, Nat.le_trans h4 ht.size, h5⟩
  · rcases (hM' _ e).1 with h6 | h6
    · exact (hq q h).1 h6
    · have := (hq q h).2.2; omega
  · obtain ⟨h | h, h'⟩ := hM' k hk
    · exact ⟨(h3 k h).1, h'⟩
    · exact ⟨by omega, h'⟩
def FrameFol (ba b6 b7 b8 b9 b10 b11 : Nat) (ds : List Deferred) (a' : Act) : Prop := ∃ u1 u2 u3 u4 u5 u12 u13 u14 u15 u16 u17 u18 u19 u20 u21 u22 u23 u24 u25 u26 u27 u28 u29 u30 u31 u32 u33 u34 u35 u36 u37 u38 u39 u40 u41 u42 u43 : Value,
  a' = { tmps := #[.pointer (some ⟨ba, 0, none⟩), u1, u2, u3, u4, u5, .pointer (some ⟨b6, 0, none⟩), .pointer (some ⟨b7, 0, none⟩), .pointer (some ⟨b8, 0, none⟩), .pointer (some ⟨b9, 0, none⟩), .pointer (some ⟨b10, 0, none⟩), .pointer (some ⟨b11, 0, none⟩), u12, u13, u14, u15, u16, u17, u18, u19, u20, u21, u22, u23, u24, u25, u26, u27, u28, u29, u30, u31, u32, u33, u34, u35, u36, u37, u38, u39, u40, u41, u42, u43], defers := ds }
def FrameRnd (ba b6 b7 b8 b9 b10 b11 i be : Nat) (a' : Act) : Prop := ∃ u1 u2 u3 u4 u5 u14 u15 u16 u17 u18 u19 u20 u21 u22 u23 u24 u25 u26 u27 u28 u29 u30 u31 u32 u33 u34 u35 u36 u37 u38 u39 u40 u41 u42 u43 : Value,
  a' = { tmps := #[.pointer (some ⟨ba, 0, none⟩), u1, u2, u3, u4, u5, .pointer (some ⟨b6, 0, none⟩), .pointer (some ⟨b7, 0, none⟩), .pointer (some ⟨b8, 0, none⟩), .pointer (some ⟨b9, 0, none⟩), .pointer (some ⟨b10, 0, none⟩), .pointer (some ⟨b11, 0, none⟩), .int .i64 (i : Int), .pointer (some ⟨be, 0, none⟩), u14, u15, u16, u17, u18, u19, u20, u21, u22, u23, u24, u25, u26, u27, u28, u29, u30, u31, u32, u33, u34, u35, u36, u37, u38, u39, u40, u41, u42, u43], defers := [] }
def FolR (E : List Edg) (ba b6 b7 b8 b9 b10 b11 lo2 : Nat) (I : List Nat → (Nat → Prop) → World → Prop) (i : Nat) (a' : Act) (p : List Nat) (Mi : Nat → Prop) (W : World) : Prop :=
  ∃ be, FrameRnd ba b6 b7 b8 b9 b10 b11 i be a' ∧ Arr W be 53 [.int .i64 (ge E i).f, .int .i64 (ge E i).t, .int .u64 (ge E i).w] ∧ lo2 ≤ be ∧ ¬ Mi be ∧ I p Mi W
theorem FolR.yields {E : List Edg} {ba b6 b7 b8 b9 b10 b11 lo2 : Nat} {I : List Nat → (Nat → Prop) → World → Prop} (hI : Yields' I) (i : Nat) (a' : Act) : Yields' (FolR E ba b6 b7 b8 b9 b10 b11 lo2 I i a') := by
  rintro p Mi W Mi' W' ⟨be, h1, h2, h3, h4, h5⟩ ht hM'
  refine ⟨be, h1, h2.touch ht h4, h3, fun e => ?_, hI p Mi W Mi' W' h5 ht hM'⟩
  rcases (hM' _ e).1 with h | h
  · exact h4 h
  · have := h2.ty.lt; omega
def FolJ (w : World) (lo ba b6 b7 b8 b9 b10 b11 : Nat) (x7 x8 x11 : Value) (l9 : List Value) (f N : Nat) (l : List Nat) (FOL : Nat → List Nat → Prop) (m : Nat) (a' : Act) (W : World) : Prop :=
  ∃ Ds v A c pre rest, m = rest.length ∧ pre ++ rest = l ∧ FOL v rest ∧ v < N ∧ FrameFol ba b6 b7 b8 b9 b10 b11 (marks Ds) a' ∧ FolS w lo b6 b7 b8 b9 b10 b11 x7 x8 x11 l9 f v A c pre W ∧ Marks Ds W ∧ (∀ D ∈ Ds, lo ≤ D ∧ D < W.heap.size ∧ ∀ q, A = some q → q.block ≠ D)
theorem rowN_ahead {nd : Nat → Nat} {m v i j : Nat} {p r : List Nat} (h : rowN nd m v = p ++ i :: r) (hj : j ∈ rowN nd m v) (hji : j < i) : j ∈ p := by
  have hs : (rowN nd m v).Pairwise (· < ·) := List.Pairwise.filter _ List.pairwise_lt_range
  rw [h] at hj hs
  rcases List.mem_append.1 hj with h1 | h1
  · exact h1
  · rcases List.mem_cons.1 h1 with h2 | h2
    · omega
    · have := (List.pairwise_cons.1 (List.pairwise_append.1 hs).2.1).1 j h2
      omega
theorem rowN_mem {nd : Nat → Nat} {m v i : Nat} : i ∈ rowN nd m v ↔ i < m ∧ nd i = v := by
  unfold rowN
  simp [List.mem_filter]
set_option maxRecDepth 40000 in
set_option maxHeartbeats 16000000 in
theorem caFollow (F : Nat → Prop) (N s t ba : Nat) (E : List Edg) (o : DOpt) (d l : List Nat) (Af Aw Ae : Option Addr) (cf cw ce : Nat) (z0 z1 z3 z4 : Value) (w : World) (hA : AdjAt F w ba N E) (hF : ∀ k, F k → k < w.heap.size)
    (hE : InN N E) (hs : s < N) (hEl : E.length ≤ 1000000) (hN : N ≤ 100000) (hdl : d.length = N) (hwl : (wtF N E o.W).length = E.length) (hw2 : ∀ i, i < E.length → gn (wtF N E o.W) i ≤ 17592186044416) (hne : o.ne.length ≤ 1000000)
    (rf : Rd w Af 1 N (wv d)) (rw_ : Rd w Aw 1 E.length (wv (wtF N E o.W))) (re : Rd w Ae 1 o.ne.length (o.ne.map (.int .i64))) (_ : (z0.oneCell' = true ∧ z1.oneCell' = true) ∧ z3.oneCell' = true ∧ z4.oneCell' = true)
    (hnear : Near (srchOf N E o) d t) (hfol : Fol (srchOf N E o) d t s l) :
    Calls Tryz.prog 51 #[.pointer (some ⟨ba, 0, none⟩), .int .i64 (s : Int), .slice Af N cf, .slice Aw E.length cw, .agg #[z0, z1, .slice Ae o.ne.length ce, z3, z4]] w fun e w' =>
      ∃ A' c', e = .returned (.agg #[.slice A' l.length c', .int .u64 (gn d s : Int)]) ∧ Own w' w.heap.size 3 1 A' l.length c' (nv l) ∧ Grows w w' := by
  have hll := hfol.short hnear hs
  have hll2 : l.length < N := hll
  obtain ⟨bf, of, rfl, hcf⟩ := rf.at_ (by omega)
  have kf : ∀ v, v < N → Holds w ⟨bf, of + v, none⟩ (.int .u64 (gn d v : Int)) := fun v hv => ⟨hcf _ _ (wv_at (by omega))⟩
  have k0 := kf s hs
  have KF := hide kf
  have C1 := hide (fun (v : Nat) (W1 : World) => adjEach ba (v : Int) false W1)
  have C2 := hide (fun (v i b6 b7 b8 b9 : Nat) (W1 : World) (g : Grows w W1) (hi : i < E.length) (hv : v < N) (h6 : Arr W1 b6 3 [.int .i64 (v : Int)]) (h7 : Arr W1 b7 29 [.slice (some ⟨bf, of, none⟩) N cf]) (h8 : Arr W1 b8 29 [.slice Aw E.length cw]) (h9 : Arr W1 b9 50 [z0, z1, .slice Ae o.ne.length ce, z3, z4]) =>
    caNear N E o d v i b6 b7 b8 b9 (some ⟨bf, of, none⟩) Aw Ae cf cw ce z0 z1 z3 z4 W1 hE hi hEl hv (by omega) hdl hwl (hw2 i hi) hne h6 h7 h8 h9 (rf.grows g) (rw_.grows g) (re.grows g))
  have HH := hide (And.intro hA (And.intro hF (And.intro hE (And.intro hnear hfol))))
  clear hA hF hE hnear hfol kf hcf rf rw_ re hwl hw2 hne hdl hll
  generalize gn d s = f at *
  refine calls_of_marks Tryz.func51 rfl ?_
  simp only [Tryz.ntmps51, List.size_toArray, List.length_cons, List.length_nil, Nat.reduceAdd, Nat.reduceSub, Array.replicate_succ, Array.replicate_zero, List.push_toArray, List.append_toArray, List.nil_append, List.cons_append]
  go_wp2_with fail
  obtain ⟨b6, hb6⟩ : ∃ b6, b6 = w.heap.size := ⟨_, rfl⟩
  refine wp_scope_m 0 (FolJ w (b6 + 1 + 1 + 1 + 1 + 1 + 1) ba b6 (b6 + 1) (b6 + 1 + 1) (b6 + 1 + 1 + 1) (b6 + 1 + 1 + 1 + 1) (b6 + 1 + 1 + 1 + 1 + 1) (.slice (some ⟨bf, of, none⟩) N cf) (.slice Aw E.length cw)
    (.func (.func 68) #[] #[.pointer (some ⟨b6 + 1, 0, none⟩), .pointer (some ⟨b6 + 1 + 1, 0, none⟩), .pointer (some ⟨b6, 0, none⟩), .pointer (some ⟨b6 + 1 + 1 + 1, 0, none⟩)]) [z0, z1, .slice Ae o.ne.length ce, z3, z4] f N l (Fol (srchOf N E o) d t)) rfl ?pass ?first
  case first =>
    intro hpass
    subst hb6
    go_wp2_with fail
    go_step3
    rename_i K hK
    refine hK _ _ (hpass l.length _ _ ?_)
    have HHo := HH.out
    refine ⟨[], s, none, 0, [], l, rfl, rfl, HHo.2.2.2.2, hs, ?_, ⟨⟨⟨_, ?g⟩, rfl⟩, ⟨?_, ?_, ?_, ?_, ?_, ?_⟩, Own.nil _ _ _ _, ?_⟩, Marks.nil _, fun D hD => (by cases hD)⟩
    case g => exact GG
    · unfold FrameFol
      (repeat apply Exists.intro)
      rfl
    all_goals first | (refine ⟨?_⟩; simp [heap_push, Array.getElem_push, Array.getElem?_push, eq_add2]; done) | (refine ⟨?_⟩; simp [heap_push, Array.getElem_push, Array.getElem?_push, eq_add2]; repeat (first | rw [if_neg (by omega)] | rw [if_pos rfl])) | (simp; done) | (simp; omega)
  case pass =>
    have hb : FolB w (b6 + 1 + 1 + 1 + 1 + 1 + 1) b6 (b6 + 1) (b6 + 1 + 1) (b6 + 1 + 1 + 1) (b6 + 1 + 1 + 1 + 1) (b6 + 1 + 1 + 1 + 1 + 1) := by unfold FolB; omega
    have HB6 := hide hb6
    clear k0 hb6
    generalize b6 + 1 + 1 + 1 + 1 + 1 + 1 = lo at *
    generalize b6 + 1 + 1 + 1 + 1 + 1 = b11 at *
    generalize b6 + 1 + 1 + 1 + 1 = b10 at *
    generalize b6 + 1 + 1 + 1 = b9 at *
    generalize b6 + 1 + 1 = b8 at *
    generalize b6 + 1 = b7 at *
    rintro m a W ⟨Ds, v, A, c, pre, rest, rfl, hpl, hfol, hv, ⟨u1, u2, u3, u4, u5, u12, u13, u14, u15, u16, u17, u18, u19, u20, u21, u22, u23, u24, u25, u26, u27, u28, u29, u30, u31, u32, u33, u34, u35, u36, u37, u38, u39, u40, u41, u42, u43, rfl⟩, hS, hM, hD⟩
    obtain ⟨⟨y, rfl⟩, ⟨a6, a7, a8, a9, a10, a11⟩, ho, hlo⟩ := id hS
    have kv := KF.out v hv
    have HS := hide hS
    have HM := hide hM
    have HD := hide hD
    have HO := hide ho
    have HFOL := hide hfol
    have HPL := hide hpl
    clear hS hM hD ho hfol hpl
    by_cases hvt : v = t
    · subst hvt
      have e0 : gn d v = 0 := HH.out.2.2.2.1.zero
      have er := HFOL.out.end_
      subst er
      rw [e0] at kv
      clear e0
      go_wp2_with fail
      simp only [Exit.jump]
      have hb := hb
      obtain ⟨hb0, hb1, hb2, hb3, hb4, hb5, hb7⟩ := hb
      have e10 : Arr ((y.now.setCell ⟨b10, 0, none⟩ (.slice A pre.length c)).setCell ⟨b10, 1, none⟩ (.int .u64 (f : Int))) b10 69 [.slice A pre.length c, .int .u64 (f : Int)] := (a10.set 0 _).set 1 _
      have htw : Touch (fun k => k = b10) y.now ((y.now.setCell ⟨b10, 0, none⟩ (.slice A pre.length c)).setCell ⟨b10, 1, none⟩ (.int .u64 (f : Int))) := ((Touch.refl (fun k => k = b10) y.now).set (p := ⟨b10, 0, none⟩) (.inl rfl) _).set (p := ⟨b10, 1, none⟩) (.inl rfl) _
      have hdb : ∀ D ∈ Ds, ¬ D = b10 := fun D hD2 e => by have := (HD.out D hD2).1; omega
      have ho2 := (HO.out.low (q := ⟨b10, 0, none⟩) (by show b10 < _; omega) (.slice A pre.length c)).low (q := ⟨b10, 1, none⟩) (by show b10 < _; omega) (.int .u64 (f : Int))
      have hy2 : Grows w ((y.now.setCell ⟨b10, 0, none⟩ (.slice A pre.length c)).setCell ⟨b10, 1, none⟩ (.int .u64 (f : Int))) := (y.grows.set (by show w.heap.size ≤ b10; omega) _).set (by show w.heap.size ≤ b10; omega) _
      refine marks_ret Ds rfl (HM.out.touch htw hdb) (fun W' htt => ?_)
      have k10 := e10.touch htt (fun e => hdb _ e rfl)
      have k10a := k10.cell 0
      have k10b := k10.cell 1
      have hpl : pre = l := by have := HPL.out; simpa using this
      subst hpl
      exact ⟨.agg #[.slice A pre.length c, .int .u64 (f : Int)], by simp (maxDischargeDepth := 6) [results, Tryz.results51, go_sem, k10a, k10b], A, c, rfl, (ho2.touch htt (fun q hq e => (HD.out _ e).2.2 q hq rfl)).base (by omega), htt.later hy2 (fun k hk => by have := (HD.out k hk).1; omega)⟩
    · have hpos := HH.out.2.2.2.1.pos hv hvt
      have hb1 : ((gn d v : Int) == 0) = false := beq_eq_false_iff_ne.2 (by omega)
      have HVT := hide hvt
      clear hvt hpos
      go_wp2_with fail
      refine (C1.out _ _).mono ?_; rintro e W1 ⟨b, rfl, hbe, z5, z6, z7, hg⟩
      obtain ⟨i0, rest2, hre, hi0, hfi0, hnb0, hlt0, hfol2⟩ := HFOL.out.next HVT.out
      obtain ⟨hA, hF, hE, hnear, _⟩ := HH.out
      have hti0 := (hnear.ends i0 hi0).2
      have hS1 := HS.out.touch hb (hg.touch (fun _ => False)) (fun _ h => h.elim) (fun _ _ => id)
      have hM1 := HM.out.touch (hg.touch (fun _ => False)) (fun _ _ => id)
      have hgw : Grows w W1 := y.grows.trans hg
      have hsz1 := hg.size
      have hz7 := z7.lt
      have hlo2 : lo ≤ W1.heap.size := Nat.le_trans hlo hsz1
      have hlob : lo ≤ b := by omega
      have hpre : pre.length < 1000000 := by
        have := congrArg List.length HPL.out
        simp at this
        omega
      have hAb : ∀ q, A = some q → q.block < b := fun q hq => by have := (HO.out.ty q hq).2.lt; omega
      have hDb : ∀ D ∈ Ds, D < b := fun D hD2 => by have := (HD.out D hD2).2.1; omega
      have hb := hb
      obtain ⟨hb0, hb1', hb2, hb3, hb4, hb5, hb7⟩ := id hb
      have hBW : ∀ k, (k < w.heap.size ∨ (b ≤ k ∧ k ≤ b + 1 + 1)) → k < W1.heap.size := fun k hk => by have := hgw.size; rcases hk with hk | hk <;> omega
      have hGV := each_gives F (fun k => k < w.heap.size ∨ (b ≤ k ∧ k ≤ b + 1 + 1)) (fun _ => False) ba N E v false b W1 (hA.touch (hgw.touch (fun _ => False)) (fun _ _ => id)) (fun k hk => .inl (.inl (hF k hk))) hE hv hEl hN (fun k hk => hk.elim) (.inl (.inr (by omega))) (.inl (.inr (by omega))) (.inl (.inr (by omega))) z5 z6 z7
      have h0 : FolI (FolS w lo b6 b7 b8 b9 b10 b11 (.slice (some ⟨bf, of, none⟩) N cf) (.slice Aw E.length cw) (.func (.func 68) #[] #[.pointer (some ⟨b7, 0, none⟩), .pointer (some ⟨b8, 0, none⟩), .pointer (some ⟨b6, 0, none⟩), .pointer (some ⟨b9, 0, none⟩)]) [z0, z1, .slice Ae o.ne.length ce, z3, z4] f v A c pre) W1.heap.size Ds (nearB (srchOf N E o) d v) [] (fun _ => False) W1 := ⟨hS1, hM1, fun k hk => hk.elim, Nat.le_refl _, fun j hj => by cases hj⟩
      have hIy := FolI.yields (FS := FolS w lo b6 b7 b8 b9 b10 b11 (.slice (some ⟨bf, of, none⟩) N cf) (.slice Aw E.length cw) (.func (.func 68) #[] #[.pointer (some ⟨b7, 0, none⟩), .pointer (some ⟨b8, 0, none⟩), .pointer (some ⟨b6, 0, none⟩), .pointer (some ⟨b9, 0, none⟩)]) [z0, z1, .slice Ae o.ne.length ce, z3, z4] f v A c pre) (lo2 := W1.heap.size) (Ds := Ds) (nb := nearB (srchOf N E o) d v)
        (fun S W W' h ht hS => h.touch hb ht (fun k hk => Nat.le_trans hlo2 (hS k hk)) (fun q hq e => by have := hS _ e; have := hAb q hq; omega)) (fun D hD2 => by have := hDb D hD2; omega)
      have hXy := FolX.yields (FS := fun A' c' => FolS w lo b6 b7 b8 b9 b10 b11 (.slice (some ⟨bf, of, none⟩) N cf) (.slice Aw E.length cw) (.func (.func 68) #[] #[.pointer (some ⟨b7, 0, none⟩), .pointer (some ⟨b8, 0, none⟩), .pointer (some ⟨b6, 0, none⟩), .pointer (some ⟨b9, 0, none⟩)]) [z0, z1, .slice Ae o.ne.length ce, z3, z4] f (tN E i0) A' c' (pre ++ [i0])) (lo := lo) (lo2 := W1.heap.size) (Ds := Ds)
        (fun A' c' S W W' h ht hS hA => h.touch hb ht hS hA) (fun D hD2 => by have := hDb D hD2; omega)
      have HGV := hide hGV
      have H0 := hide h0
      have HIY := hide hIy
      have HXY := hide hXy
      have HBS := hide (And.intro hA (And.intro hF (And.intro hE hnear)))
      have HNB := hide (And.intro hnb0 (And.intro hlt0 hfol2))
      have HRE := hide hre
      have HFI0 := hide hfi0
      clear hGV h0 hIy hXy hS1 hM1 hA hF hE hnear hnb0 hlt0 hfol2 z5 z6 z7 hre hg hbe a6 a7 a8 a9 a10 a11 hb1 kv hfi0
      go_wp2_with fail
      refine (wpIn_wide (n := 0)).1 ?_
      have hGV := HGV.out
      have h0 := H0.out
      clear HGV H0
      refine wp_rangeG (w0 := W1) (gf := 86) rfl (enters_of Tryz.func86 (by kernel_rfl) rfl) hGV (Keeps.refl _ _ _) hBW (fun k hk => hk.elim) (fun _ => rfl)
        (FolI (FolS w lo b6 b7 b8 b9 b10 b11 (.slice (some ⟨bf, of, none⟩) N cf) (.slice Aw E.length cw) (.func (.func 68) #[] #[.pointer (some ⟨b7, 0, none⟩), .pointer (some ⟨b8, 0, none⟩), .pointer (some ⟨b6, 0, none⟩), .pointer (some ⟨b9, 0, none⟩)]) [z0, z1, .slice Ae o.ne.length ce, z3, z4] f v A c pre) W1.heap.size Ds (nearB (srchOf N E o) d v))
        (FolX (fun A' c' => FolS w lo b6 b7 b8 b9 b10 b11 (.slice (some ⟨bf, of, none⟩) N cf) (.slice Aw E.length cw) (.func (.func 68) #[] #[.pointer (some ⟨b7, 0, none⟩), .pointer (some ⟨b8, 0, none⟩), .pointer (some ⟨b6, 0, none⟩), .pointer (some ⟨b9, 0, none⟩)]) [z0, z1, .slice Ae o.ne.length ce, z3, z4] f (tN E i0) A' c' (pre ++ [i0])) lo W1.heap.size Ds)
        HIY.out HXY.out h0 (FolR E ba b6 b7 b8 b9 b10 b11 W1.heap.size (FolI (FolS w lo b6 b7 b8 b9 b10 b11 (.slice (some ⟨bf, of, none⟩) N cf) (.slice Aw E.length cw) (.func (.func 68) #[] #[.pointer (some ⟨b7, 0, none⟩), .pointer (some ⟨b8, 0, none⟩), .pointer (some ⟨b6, 0, none⟩), .pointer (some ⟨b9, 0, none⟩)]) [z0, z1, .slice Ae o.ne.length ce, z3, z4] f v A c pre) W1.heap.size Ds (nearB (srchOf N E o) d v))) (fun i a' => FolR.yields HIY.out i a') ?assign ?body ?done ?stop
      case assign =>
        intro l2 p x rest3 Mi W2 hsp hI
        have hI2 := HIY.out p Mi W2 Mi (W2.alloc (.cells #[.int .i64 (ge E x).f, .int .i64 (ge E x).t, .int .u64 (ge E x).w] 53)) hI (((Grows.refl W2).new _).touch _) (fun k hk => ⟨.inl hk, by have := (hI.2.2.1 k hk).2; simp; omega⟩)
        have hmi : ¬ Mi W2.heap.size := fun e => by have := (hI.2.2.1 _ e).2; omega
        have hll := hI.2.2.2.1
        have HI2 := hide hI2
        clear hI hI2 h0 hGV
        unfold encE eVal
        gi_wp2
        refine ⟨⟨W2.heap.size, ?_, Arr.make W2 _ _, hll, hmi, HI2.out⟩, ((Grows.refl W2).new _).touch _⟩
        unfold FrameRnd
        (repeat apply Exists.intro)
        rfl
      case body =>
        rintro l2 p i rest3 Mi a' W2 hsp hl2 hMl hrec ⟨be, ⟨u1, u2, u3, u4, u5, u14, u15, u16, u17, u18, u19, u20, u21, u22, u23, u24, u25, u26, u27, u28, u29, u30, u31, u32, u33, u34, u35, u36, u37, u38, u39, u40, u41, u42, u43, rfl⟩, hbe, hbl, hbM, hI⟩
        obtain ⟨hS, hM, hmi, hlo3, hall⟩ := hI
        have HM2 := hide hM
        have HMI := hide hmi
        have HALL := hide hall
        have HSP := hide hsp
        have HS2 := hide hS
        obtain ⟨⟨y2, rfl⟩, ⟨a6, a7, a8, a9, a10, a11⟩, ho, hlw⟩ := hS
        have HO2 := hide ho
        have hir := rowN_mem.1 (show i ∈ rowN (nN E false) E.length v from by rw [hsp]; simp)
        have hi : i < E.length := hir.1
        have HFI := hide (show fN E i = v from hir.2)
        have ht := (HBS.out.2.2.1.t i hi).2
        have CN := C2.out v i b6 b7 b8 b9 y2.now y2.grows hi hv a6 a7 a8 a9
        unfold eVal at CN
        rw [ht] at CN hbe
        have hAlo : ∀ q, A = some q → lo ≤ q.block := fun q hq => (ho.ty q hq).1
        cases hq : nearB (srchOf N E o) d v i with
        | true =>
          have hii : i0 = i := by
            rcases Nat.lt_trichotomy i i0 with h | h | h
            · have := HNB.out.2.1 i h hir.2
              rw [hq] at this
              cases this
            · exact h.symm
            · have := hall i0 (rowN_ahead hsp (rowN_mem.2 ⟨hi0, HFI0.out⟩) h)
              rw [HNB.out.1] at this
              cases this
          subst hii
          rw [hq] at CN
          have CN := hide CN
          clear hM hmi hall hsp ho h0 hGV hir hl2 hMl hrec ht hq
          simp only
          gi_wp2_with (first | (gi_at_call 68; refine (calls_in (wideF_round l2) CN.out).mono ?_; rintro e w' ⟨rfl, hg⟩; obtain ⟨x3, rfl⟩ := hg.later; clear hg) | (refine wp_appIn elemInt rfl _ _ rfl lo (by simp; have := x3.size; omega) pre.length c A _ rfl ((HO2.out.now x3).new _) _ _ _ rfl inferInstance rfl (by omega) ?_; intro A3 c3 w3 ho3 ht3 hn3; have q63 := (a6.grow (x3.grows.new _)).touch ht3 (fun e => by obtain ⟨q, hq, e2⟩ := e; have := hAlo q hq; omega); have q103 := (a10.grow (x3.grows.new _)).touch ht3 (fun e => by obtain ⟨q, hq, e2⟩ := e; have := hAlo q hq; omega); have qe3 := (hbe.grow (x3.grows.new _)).touch ht3 (fun e => by obtain ⟨q, hq, e2⟩ := e; have := hAb q hq; omega); have HO3 := hide ho3; have HT3 := hide ht3; have HN3 := hide hn3; clear ho3 ht3 hn3))
          refine wpIn_goto ?_
          have hAnew : ∀ q, A = some q → ¬ ((q.block < w.heap.size ∨ (b ≤ q.block ∧ q.block ≤ b + 1 + 1)) ∨ Mi q.block) := fun q hq e => by
            have h1 := hAlo q hq
            have h2 := hAb q hq
            rcases e with (e | e) | e
            · omega
            · omega
            · have := (HMI.out _ e).1; omega
          have htt : Touch (fun k => ¬ ((k < w.heap.size ∨ (b ≤ k ∧ k ≤ b + 1 + 1)) ∨ Mi k)) y2.now w3 := Touch.trans2 ((x3.grows.new _).touch _) HT3.out (fun k hk => by
            obtain ⟨q, hq, e2⟩ := hk
            exact .inl (by rw [← e2]; exact hAnew q hq))
          have htA : Touch (fun k => ∃ q, A = some q ∧ q.block = k) y2.now w3 := Touch.trans2 ((x3.grows.new _).touch _) HT3.out (fun k hk => .inl hk)
          have hsz3 := htt.size
          have hyg3 : Grows w w3 := htt.later y2.grows (fun k hk => by
            rcases Nat.lt_or_ge k w.heap.size with h | h
            · exact absurd (.inl (.inl h)) hk
            · exact h)
          have hnk : ∀ k, w.heap.size ≤ k → k < lo → ¬ ((k < w.heap.size ∨ (b ≤ k ∧ k ≤ b + 1 + 1)) ∨ Mi k) := fun k h1 h2 e => by
            rcases e with (e | e) | e
            · omega
            · omega
            · have := (HMI.out _ e).1; omega
          have hlA : ∀ k, k < lo → ¬ ∃ q, A = some q ∧ q.block = k := fun k hk e => by
            obtain ⟨q, hq, e2⟩ := e
            have := hAlo q hq
            omega
          have r7 := a7.touch htA (hlA b7 (by omega))
          have r8 := a8.touch htA (hlA b8 (by omega))
          have r9 := a9.touch htA (hlA b9 (by omega))
          have r11 := a11.touch htA (hlA b11 (by omega))
          have n6 : b6 ≠ b10 := by omega
          refine ⟨(htt.set (p := ⟨b10, 0, none⟩) (.inl (hnk b10 (by omega) (by omega))) _).set (p := ⟨b6, 0, none⟩) (.inl (hnk b6 (by omega) (by omega))) _, rfl, ⟨A3, c3, ⟨⟨⟨_, (hyg3.set (p := ⟨b10, 0, none⟩) (by show w.heap.size ≤ b10; omega) _).set (p := ⟨b6, 0, none⟩) (by show w.heap.size ≤ b6; omega) _⟩, rfl⟩, ⟨?_, ?_, ?_, ?_, ?_, ?_⟩, ?_, ?_⟩, fun q hq => ?_⟩, ?_, fun k hk => ?_, ?_, hlo2⟩
          · exact (q63.other (p := ⟨b10, 0, none⟩) (Ne.symm n6) _).set 0 _
          · exact (r7.other (p := ⟨b10, 0, none⟩) (by show b10 ≠ b7; omega) _).other (p := ⟨b6, 0, none⟩) (by show b6 ≠ b7; omega) _
          · exact (r8.other (p := ⟨b10, 0, none⟩) (by show b10 ≠ b8; omega) _).other (p := ⟨b6, 0, none⟩) (by show b6 ≠ b8; omega) _
          · exact (r9.other (p := ⟨b10, 0, none⟩) (by show b10 ≠ b9; omega) _).other (p := ⟨b6, 0, none⟩) (by show b6 ≠ b9; omega) _
          · have := (q103.set 0 (.slice A3 (pre.length + 1) c3)).other (p := ⟨b6, 0, none⟩) n6 (.int .i64 (tN E i0 : Int))
            rw [List.length_append, List.length_singleton]
            exact this
          · exact (r11.other (p := ⟨b10, 0, none⟩) (by show b10 ≠ b11; omega) _).other (p := ⟨b6, 0, none⟩) (by show b6 ≠ b11; omega) _
          · have e9 : nv (pre ++ [i0]) = nv pre ++ [.int .i64 (i0 : Int)] := by simp [nv]
            rw [e9, List.length_append, List.length_singleton]
            exact (HO3.out.low (q := ⟨b10, 0, none⟩) (by show b10 < _; omega) _).low (q := ⟨b6, 0, none⟩) (by show b6 < _; omega) _
          · rw [size_setCell, size_setCell]; omega
          · rw [size_setCell, size_setCell]
            rcases HN3.out q hq with ⟨q2, hq2, e2⟩ | hnew
            · rw [← e2]
              have h2 := hAb q2 hq2
              exact ⟨fun e => hAnew q2 hq2 (.inr e), fun e => (HD.out _ e).2.2 q2 hq2 rfl, by omega⟩
            · have h1 := hnew.1
              have h3 := hnew.2
              simp at h1
              have hx3 := x3.size
              exact ⟨fun e => by have := (HMI.out _ e).2; omega, fun e => by have := hDb _ e; omega, h3⟩
          · refine HM2.out.touch (S := fun k => k = b6 ∨ k = b10 ∨ ∃ q, A = some q ∧ q.block = k) (((htA.mono (fun k hk => .inr (.inr hk))).set (p := ⟨b10, 0, none⟩) (.inl (.inr (.inl rfl))) _).set (p := ⟨b6, 0, none⟩) (.inl (.inl rfl)) _) (fun D hD2 e => ?_)
            have h1 := HD.out D hD2
            rcases e with e | e | ⟨q, hq, e⟩
            · omega
            · omega
            · exact h1.2.2 q hq e
          · rw [size_setCell, size_setCell]
            have := HMI.out k hk
            exact ⟨this.1, by omega⟩
          · rw [size_setCell, size_setCell]; omega
        | false =>
          rw [hq] at CN
          have CN := hide CN
          have HQ := hide hq
          clear hM hmi hall hsp ho h0 hGV hir hl2 hMl hrec ht hq
          simp only
          gi_wp2_with (gi_at_call 68; refine (calls_in (wideF_round l2) CN.out).mono ?_; rintro e w' ⟨rfl, hg⟩; obtain ⟨x3, rfl⟩ := hg.later; clear hg)
          refine ⟨x3.grows.touch _, HS2.out.touch hb (x3.grows.touch (fun _ => False)) (fun _ h => h.elim) (fun _ _ => id), HM2.out.touch (x3.grows.touch (fun _ => False)) (fun _ _ => id), fun k hk => ⟨(HMI.out k hk).1, Nat.lt_of_lt_of_le (HMI.out k hk).2 x3.size⟩, Nat.le_trans hlo3 x3.size, fun j hj => ?_⟩
          rcases List.mem_append.1 hj with h | h
          · exact HALL.out j h
          · rw [List.mem_singleton.1 h]; exact HQ.out
      case done =>
        intro D Mi W2 _ _ hI _
        have := hI.2.2.2.2 i0 (rowN_mem.2 ⟨hi0, HFI0.out⟩)
        rw [HNB.out.1] at this
        cases this
      case stop =>
        intro D c' p i rest3 Mi W2 hlD hMD _ hX hDW
        obtain ⟨rfl, ⟨A3, c3, hFS, hA3⟩, hM2, hmi, hl, hl2⟩ := hX
        refine (wpIn_wide (n := 0)).2 ?_
        go_step3
        have hfol3 := HNB.out.2.2
        have hDn : D ∉ Ds := fun e => by have := hDb D e; omega
        refine ⟨rfl, rest2.length, by rw [HRE.out]; simp, D :: Ds, tN E i0, A3, c3, pre ++ [i0], rest2, rfl, ?_, hfol3, hti0, ?_, hFS, hM2.cons hDW hDn, fun D' hD' => ?_⟩
        · have := HPL.out
          rw [HRE.out] at this
          simpa using this
        · unfold FrameFol
          (repeat apply Exists.intro)
          rfl
        · rcases List.mem_cons.1 hD' with e | e
          · subst e
            exact ⟨by omega, (hmi _ hMD).2, fun q hq e2 => (hA3 q hq).1 (by rw [e2]; exact hMD)⟩
          · have h1 := HD.out D' e
            have h2 := hDb D' e
            exact ⟨h1.1, by omega, fun q hq e2 => (hA3 q hq).2.1 (by rw [e2]; exact e)⟩
end Go.Proofs.YtkfobolbilhjbaaGreat

namespace Go.Proofs.YtkfobolbilhjbaaGreat
open Go Go.RowKit
section
variable {P : Program} {w0 : World} {ops : Array Oper} {Q : Act → Env → Prop} {a : Act} {G : Env} {o : Oper} {rest : List Oper}
theorem gLex_propW {t : Tmp} (hw : Region.wanted o (yielded ops a.tmps) = true) (hp : plainB ops o G = true) (hd : o.dst = some t) (hlt : t < a.tmps.size)
    (p : Pr) (hl : Lasts p) (hr : ∀ x : Later w0, runsTo P (fun u w' => Grows x.now w' ∧ p u w') ((execOp a.eval o).run P x.now))
    (h : gLex P ops w0 Q rest a (G.upd t p)) : gLex P ops w0 Q (o :: rest) a G := by
  obtain ⟨h1, h2, h3, h4⟩ := plain_spec hp
  refine ⟨.inr p, ⟨h1, h2, .inl ⟨hw, hl, ⟨t, hd, hlt⟩, fun w hw a' ha' => ?_⟩⟩, ?_⟩
  · rw [exec_same h4 h3 ha']
    exact hr ⟨w, hw⟩
  · rw [hd]
    exact h
def depB (ops : Array Oper) (o : Oper) (G : Env) (t0 : Tmp) : Bool :=
  ((o.looksAt ops).all fun t => t == t0 || (G t).isNone) && (o.looksAt ops).contains t0 && (match o.dst with | some d => (G d).isNone | none => true) && (match o.op with | .select .. => false | _ => true) &&
    (match o.guard with | some (g, _) => (match (ops[g]?).bind (·.dst) with | some t => t != t0 | none => true) | none => true)
theorem dep_spec {t0 : Tmp} (h : depB ops o G t0 = true) : guardFree ops o G ∧ dstFree o G ∧ (∀ t ∈ o.looksAt ops, t = t0 ∨ G t = none) ∧ t0 ∈ o.looksAt ops ∧ ∀ cs b, o.op ≠ .select cs b := by
  unfold depB at h
  simp only [Bool.and_eq_true, List.all_eq_true, Bool.or_eq_true, Option.isNone_iff_eq_none, beq_iff_eq, List.contains_iff_mem] at h
  obtain ⟨⟨⟨⟨h1, h2⟩, h3⟩, h4⟩, h5⟩ := h
  refine ⟨fun g b t e1 e2 => ?_, fun d e => ?_, h1, h2, fun cs b e => ?_⟩
  · rcases h1 t (mem_looks_guard e1 e2) with e | e
    · rw [e1] at h5
      simp only [e2] at h5
      subst e
      simp at h5
    · exact e
  · rw [e] at h3; simpa using h3
  · rw [e] at h4; simp at h4
end
def RowP (n : Nat) (xs : List Value) : Pr := fun u w => ∃ A c, u = .slice A n c ∧ Rd w A 1 n xs
theorem RowP.lasts (n : Nat) (xs : List Value) : Lasts (RowP n xs) := fun _ _ _ hg ⟨A, c, e, h⟩ => ⟨A, c, e, h.grows hg⟩
end Go.Proofs.YtkfobolbilhjbaaGreat

namespace Go.Proofs.YtkfobolbilhjbaaGreat
open Go Go.RowKit
set_option maxHeartbeats 2000000 in
theorem caPlain (back : Bool) (A1 : Option Addr) (n1 c1 : Nat) (A2 : Option Addr) (n2 c2 : Nat) (Aw : Option Addr) (nw cw most : Nat) (w : World) : Calls Tryz.prog 48 #[oVal back (.slice A1 n1 c1) (.slice A2 n2 c2) Aw nw cw most] w fun e w' => e = .returned (oVal false (.slice A1 n1 c1) (.slice A2 n2 c2) Aw nw cw 0) ∧ Grows w w' := by
  unfold oVal
  go_enter Tryz.func48, Tryz.ntmps48
  go_wp2
  refine bodyPost_ret (v := .agg #[.bool false, .slice A1 n1 c1, .slice A2 n2 c2, .slice Aw nw cw, .int .u64 0]) (by simp (maxDischargeDepth := 6) [results, Tryz.results48, go_sem, *]) rfl ?_
  exact ⟨rfl, GG⟩
def cells5 (w : World) (b : Nat) (v0 v1 v2 v3 v4 : Value) : World := ((((w.setCell ⟨b, 0, none⟩ v0).setCell ⟨b, 1, none⟩ v1).setCell ⟨b, 2, none⟩ v2).setCell ⟨b, 3, none⟩ v3).setCell ⟨b, 4, none⟩ v4
section
variable {w w0 : World} {b g : Nat} {t : TypeId} {v0 v1 v2 v3 v4 u0 u1 u2 u3 u4 : Value} {cs : List Value}
theorem Arr.set5 (h : Arr w b t [u0, u1, u2, u3, u4]) : Arr (cells5 w b v0 v1 v2 v3 v4) b t [v0, v1, v2, v3, v4] := ((((h.set 0 v0).set 1 v1).set 2 v2).set 3 v3).set 4 v4
theorem Arr.other5 (h : Arr w g t cs) (hne : b ≠ g) : Arr (cells5 w b v0 v1 v2 v3 v4) g t cs := ((((h.other (p := ⟨b, 0, none⟩) hne v0).other (p := ⟨b, 1, none⟩) hne v1).other (p := ⟨b, 2, none⟩) hne v2).other (p := ⟨b, 3, none⟩) hne v3).other (p := ⟨b, 4, none⟩) hne v4
theorem Grows.set5 (h : Grows w0 w) (hb : w0.heap.size ≤ b) : Grows w0 (cells5 w b v0 v1 v2 v3 v4) := ((((h.set (p := ⟨b, 0, none⟩) hb v0).set (p := ⟨b, 1, none⟩) hb v1).set (p := ⟨b, 2, none⟩) hb v2).set (p := ⟨b, 3, none⟩) hb v3).set (p := ⟨b, 4, none⟩) hb v4
end
set_option maxRecDepth 40000 in
set_option maxHeartbeats 16000000 in
theorem caPath (N s t : Int) (A : Option Addr) (c : Nat) (E : List Edg) (o : DOpt) (An Ae Aw : Option Addr) (cn ce cw : Nat) (l : List Nat) (f : Nat) (r : Int) (w : World) (h : Rd w A 3 E.length (esCells E)) (h2 : Rd w An 1 o.nn.length (o.nn.map (.int .i64))) (h3 : Rd w Ae 1 o.ne.length (o.ne.map (.int .i64))) (h4 : Rd w Aw 1 o.W.length (wv o.W))
    (hn : E.length ≤ 1000000) (hn3 : o.W.length ≤ 1000000) (hp : IsPath E o N s t l f r) :
    Calls Tryz.prog 28 #[.agg #[.int .i64 N, .slice A E.length c], .int .i64 s, .int .i64 t, oVal o.back (.slice An o.nn.length cn) (.slice Ae o.ne.length ce) Aw o.W.length cw o.most] w fun e w' =>
      ∃ A' c', e = .returned (.tuple #[.agg #[.slice A' l.length c', .int .u64 (f : Int)], .int .i64 r]) ∧ Own w' w.heap.size 3 1 A' l.length c' (nv l) ∧ Grows w w' := by
  have C1 := hide (fun (W : World) => show Calls Tryz.prog 48 #[.agg #[.bool o.back, .slice An o.nn.length cn, .slice Ae o.ne.length ce, .slice Aw o.W.length cw, .int .u64 (o.most : Int)]] W fun e w' => e = .returned (.agg #[.bool false, .slice An o.nn.length cn, .slice Ae o.ne.length ce, .slice Aw o.W.length cw, .int .u64 0]) ∧ Grows W w' from caPlain o.back An o.nn.length cn Ae o.ne.length ce Aw o.W.length cw o.most W)
  have C2 := hide (fun (W : World) (g : Grows w W) => show Calls Tryz.prog 26 #[.agg #[.int .i64 N, .slice A E.length c], .int .i64 s, .agg #[.bool false, .slice An o.nn.length cn, .slice Ae o.ne.length ce, .slice Aw o.W.length cw, .int .u64 0]] W fun e w' => e = .returned (.int .i64 (dcF N s E o.W)) ∧ Grows W w' from djCheck N s A E.length c E false (.slice An o.nn.length cn) (.slice Ae o.ne.length ce) Aw o.W.length cw 0 o.W W (h.grows g) (h4.grows g) hn hn3)
  have C3 := hide (fun (W : World) => gNode N t (.slice A E.length c) W)
  unfold oVal
  generalize o.most = mo at *
  generalize o.back = back at *
  cases hp with
  | bad hd =>
    have hr2 : (dcF N s E o.W == 0) = false := beq_eq_false_iff_ne.2 hd
    clear h h2 h3 h4 hd
    generalize dcF N s E o.W = r at *
    go_enter Tryz.func28, Tryz.ntmps28
    go_wp2_with fail
    refine (C1.out _).mono ?_; rintro e W0 ⟨rfl, hg⟩
    have a4 : Arr W0 w.heap.size 24 [.int .i64 (N), .slice A E.length c] := Arr.grow ⟨by simp [heap_push, Array.getElem_push, Array.getElem?_push, eq_add2]⟩ hg
    have a7 : Arr W0 (w.heap.size + 1) 50 [.bool back, .slice An o.nn.length cn, .slice Ae o.ne.length ce, .slice Aw o.W.length cw, .int .u64 (mo : Int)] := Arr.grow ⟨by simp [heap_push, Array.getElem_push]⟩ hg
    have a8 : Arr W0 (w.heap.size + 1 + 1) 69 [.slice none 0 0, .int .u64 0] := Arr.grow ⟨by simp [heap_push, Array.getElem_push]⟩ hg
    have hgw : Grows w W0 := Grows.trans (by exact GG) hg
    obtain ⟨b4, e4⟩ : ∃ b, w.heap.size = b := ⟨_, rfl⟩
    have hb : w.heap.size ≤ b4 := by omega
    rw [e4] at a4 a7 a8 ⊢
    clear e4 hg C1
    have hb2 : b4 < b4 + 1 ∧ b4 + 1 < b4 + 1 + 1 := by omega
    generalize b4 + 1 + 1 = b8 at *
    generalize b4 + 1 = b7 at *
    obtain ⟨y, rfl⟩ := hgw.later
    clear hgw
    go_wp2_with fail
    have g5 : Grows w (cells5 y.now b7 (.bool false) (.slice An o.nn.length cn) (.slice Ae o.ne.length ce) (.slice Aw o.W.length cw) (.int .u64 0)) := Grows.set5 y.grows (by omega)
    refine (C2.out _ g5).mono ?_; rintro e W0 ⟨rfl, hg⟩
    replace g5 := g5.trans hg
    have c4 := (a4.other5 (b := b7) (by omega)).grow hg
    have c7 := (a7.set5).grow hg
    have c8 := (a8.other5 (b := b7) (by omega)).grow hg
    clear a4 a7 a8 hg
    obtain ⟨y1, rfl⟩ := g5.later
    clear g5
    go_wp2_with fail
    refine bodyPost_ret (v := .tuple #[.agg #[.slice none 0 0, .int .u64 0], .int .i64 (r)]) (by simp (maxDischargeDepth := 6) [results, Tryz.results28, go_sem, *]) rfl ?_
    exact ⟨none, 0, rfl, Own.nil _ _ _ _, GG⟩
  | noNode hd ht =>
    have hb : nodeB N t = false := decide_eq_false ht
    rw [hd] at C2
    rw [hb] at C3
    clear h h2 h3 h4 hd hb ht
    go_enter Tryz.func28, Tryz.ntmps28
    go_wp2_with fail
    refine (C1.out _).mono ?_; rintro e W0 ⟨rfl, hg⟩
    have a4 : Arr W0 w.heap.size 24 [.int .i64 (N), .slice A E.length c] := Arr.grow ⟨by simp [heap_push, Array.getElem_push, Array.getElem?_push, eq_add2]⟩ hg
    have a7 : Arr W0 (w.heap.size + 1) 50 [.bool back, .slice An o.nn.length cn, .slice Ae o.ne.length ce, .slice Aw o.W.length cw, .int .u64 (mo : Int)] := Arr.grow ⟨by simp [heap_push, Array.getElem_push]⟩ hg
    have a8 : Arr W0 (w.heap.size + 1 + 1) 69 [.slice none 0 0, .int .u64 0] := Arr.grow ⟨by simp [heap_push, Array.getElem_push]⟩ hg
    have hgw : Grows w W0 := Grows.trans (by exact GG) hg
    obtain ⟨b4, e4⟩ : ∃ b, w.heap.size = b := ⟨_, rfl⟩
    have hb : w.heap.size ≤ b4 := by omega
    rw [e4] at a4 a7 a8 ⊢
    clear e4 hg C1
    have hb2 : b4 < b4 + 1 ∧ b4 + 1 < b4 + 1 + 1 := by omega
    generalize b4 + 1 + 1 = b8 at *
    generalize b4 + 1 = b7 at *
    obtain ⟨y, rfl⟩ := hgw.later
    clear hgw
    go_wp2_with fail
    have g5 : Grows w (cells5 y.now b7 (.bool false) (.slice An o.nn.length cn) (.slice Ae o.ne.length ce) (.slice Aw o.W.length cw) (.int .u64 0)) := Grows.set5 y.grows (by omega)
    refine (C2.out _ g5).mono ?_; rintro e W0 ⟨rfl, hg⟩
    replace g5 := g5.trans hg
    have c4 := (a4.other5 (b := b7) (by omega)).grow hg
    have c7 := (a7.set5).grow hg
    have c8 := (a8.other5 (b := b7) (by omega)).grow hg
    clear a4 a7 a8 hg
    obtain ⟨y1, rfl⟩ := g5.later
    clear g5
    go_wp2_with fail
    refine (C3.out _).mono ?_; rintro e W0 ⟨rfl, hg⟩
    replace c4 := c4.grow hg
    replace c7 := c7.grow hg
    replace c8 := c8.grow hg
    obtain ⟨y2, rfl⟩ := (y1.grows.trans hg).later
    clear hg
    go_wp2_with fail
    refine bodyPost_ret (v := .tuple #[.agg #[.slice none 0 0, .int .u64 0], .int .i64 (7)]) (by simp (maxDischargeDepth := 6) [results, Tryz.results28, go_sem, *]) rfl ?_
    exact ⟨none, 0, rfl, Own.nil _ _ _ _, GG⟩
  | noPath NN sN tN xs hN hs ht hok hf =>
    subst hN hs ht
    have HR := hide (And.intro h (And.intro h2 (And.intro h3 h4)))
    have HOK := hide hok
    rw [hok.dcs] at C2
    rw [show nodeB (NN : Int) (tN : Int) = true from decide_eq_true ⟨by omega, by have := hok.ok.node; omega⟩] at C3
    have hsN := hok.node
    have C4 := hide (fun (W1 : World) (g : Grows w W1) => show Calls Tryz.prog 49 #[.agg #[.int .i64 (NN : Int), .slice A E.length c], .int .i64 (tN : Int), .agg #[.bool true, .slice An o.nn.length cn, .slice Ae o.ne.length ce, .slice Aw o.W.length cw, .int .u64 0]] W1 fun e w' =>
      ∃ go, e = .returned (.tuple #[.slice (some ⟨go, 0, none⟩) NN NN, .int .i64 0]) ∧ Row1 w' go 26 1 NN NN (wv (outL NN xs)) ∧ W1.heap.size ≤ go ∧ Grows W1 w' from
      djAll NN tN A c E (backO o) An Ae Aw cn ce cw xs W1 (h.grows g) (h2.grows g) (h3.grows g) (h4.grows g) hok.ok hok.dc hok.tr hok.lt)
    have HDL := hide (outL_len NN xs)
    clear h h2 h3 h4
    clear hok
    go_enter Tryz.func28, Tryz.ntmps28
    go_wp2_with fail
    refine (C1.out _).mono ?_; rintro e W0 ⟨rfl, hg⟩
    have a4 : Arr W0 w.heap.size 24 [.int .i64 ((NN : Int)), .slice A E.length c] := Arr.grow ⟨by simp [heap_push, Array.getElem_push, Array.getElem?_push, eq_add2]⟩ hg
    have a7 : Arr W0 (w.heap.size + 1) 50 [.bool back, .slice An o.nn.length cn, .slice Ae o.ne.length ce, .slice Aw o.W.length cw, .int .u64 (mo : Int)] := Arr.grow ⟨by simp [heap_push, Array.getElem_push]⟩ hg
    have a8 : Arr W0 (w.heap.size + 1 + 1) 69 [.slice none 0 0, .int .u64 0] := Arr.grow ⟨by simp [heap_push, Array.getElem_push]⟩ hg
    have hgw : Grows w W0 := Grows.trans (by exact GG) hg
    obtain ⟨b4, e4⟩ : ∃ b, w.heap.size = b := ⟨_, rfl⟩
    have hb : w.heap.size ≤ b4 := by omega
    rw [e4] at a4 a7 a8 ⊢
    clear e4 hg C1
    have hb2 : b4 < b4 + 1 ∧ b4 + 1 < b4 + 1 + 1 := by omega
    generalize b4 + 1 + 1 = b8 at *
    generalize b4 + 1 = b7 at *
    obtain ⟨y, rfl⟩ := hgw.later
    clear hgw
    go_wp2_with fail
    have g5 : Grows w (cells5 y.now b7 (.bool false) (.slice An o.nn.length cn) (.slice Ae o.ne.length ce) (.slice Aw o.W.length cw) (.int .u64 0)) := Grows.set5 y.grows (by omega)
    refine (C2.out _ g5).mono ?_; rintro e W0 ⟨rfl, hg⟩
    replace g5 := g5.trans hg
    have c4 := (a4.other5 (b := b7) (by omega)).grow hg
    have c7 := (a7.set5).grow hg
    have c8 := (a8.other5 (b := b7) (by omega)).grow hg
    clear a4 a7 a8 hg
    obtain ⟨y1, rfl⟩ := g5.later
    clear g5
    go_wp2_with fail
    refine (C3.out _).mono ?_; rintro e W0 ⟨rfl, hg⟩
    replace c4 := c4.grow hg
    replace c7 := c7.grow hg
    replace c8 := c8.grow hg
    obtain ⟨y2, rfl⟩ := (y1.grows.trans hg).later
    clear hg
    go_wp2_with fail
    refine (C4.out _ GG).mono ?_; rintro e W0 ⟨gf, rfl, hrow, hgf, hg⟩
    have kf : Mine W0 ⟨gf, sN, none⟩ (.int .u64 4611686018427387904) := by
      have := hrow.mine (j := sN) (wv_at (W := outL NN xs) (by rw [HDL.out]; exact hsN))
      rw [hf] at this
      exact this
    replace c4 := (c4.grow ((Grows.refl _).new _)).grow hg
    replace c7 := (c7.grow ((Grows.refl _).new _)).grow hg
    replace c8 := (c8.grow ((Grows.refl _).new _)).grow hg
    have g8 := (y2.grows.new _).trans hg
    clear hg
    obtain ⟨y3, rfl⟩ := g8.later
    clear g8
    clear hrow
    go_wp2_with fail
    refine bodyPost_ret (v := .tuple #[.agg #[.slice none 0 0, .int .u64 0], .int .i64 (9)]) (by simp (maxDischargeDepth := 6) [results, Tryz.results28, go_sem, *]) rfl ?_
    exact ⟨none, 0, rfl, Own.nil _ _ _ _, GG⟩
  | way NN sN tN xs l hN hs ht hok hf hnear hfol =>
    subst hN hs ht
    have HR := hide (And.intro h (And.intro h2 (And.intro h3 h4)))
    have HOK := hide hok
    rw [hok.dcs] at C2
    rw [show nodeB (NN : Int) (tN : Int) = true from decide_eq_true ⟨by omega, by have := hok.ok.node; omega⟩] at C3
    have hsN := hok.node
    have C4 := hide (fun (W1 : World) (g : Grows w W1) => show Calls Tryz.prog 49 #[.agg #[.int .i64 (NN : Int), .slice A E.length c], .int .i64 (tN : Int), .agg #[.bool true, .slice An o.nn.length cn, .slice Ae o.ne.length ce, .slice Aw o.W.length cw, .int .u64 0]] W1 fun e w' =>
      ∃ go, e = .returned (.tuple #[.slice (some ⟨go, 0, none⟩) NN NN, .int .i64 0]) ∧ Row1 w' go 26 1 NN NN (wv (outL NN xs)) ∧ W1.heap.size ≤ go ∧ Grows W1 w' from
      djAll NN tN A c E (backO o) An Ae Aw cn ce cw xs W1 (h.grows g) (h2.grows g) (h3.grows g) (h4.grows g) hok.ok hok.dc hok.tr hok.lt)
    have HDL := hide (outL_len NN xs)
    clear h h2 h3 h4
    have C5 := hide (fun (W1 : World) (g : Grows w W1) => adjNew NN A E.length c E W1 (HR.out.1.grows g) hn hok.ok.right)
    have HFOL := hide (And.intro hnear hfol)
    have hlt : gn (outL NN xs) sN < 4611686018427387904 := by unfold farV at hf; exact hf
    have hbd : decide ((4611686018427387904 : Int) ≤ (gn (outL NN xs) sN : Int)) = false := decide_eq_false (by omega)
    clear hok hf hnear hfol hlt
    go_enter Tryz.func28, Tryz.ntmps28
    go_wp2_with fail
    refine (C1.out _).mono ?_; rintro e W0 ⟨rfl, hg⟩
    have a4 : Arr W0 w.heap.size 24 [.int .i64 ((NN : Int)), .slice A E.length c] := Arr.grow ⟨by simp [heap_push, Array.getElem_push, Array.getElem?_push, eq_add2]⟩ hg
    have a7 : Arr W0 (w.heap.size + 1) 50 [.bool back, .slice An o.nn.length cn, .slice Ae o.ne.length ce, .slice Aw o.W.length cw, .int .u64 (mo : Int)] := Arr.grow ⟨by simp [heap_push, Array.getElem_push]⟩ hg
    have a8 : Arr W0 (w.heap.size + 1 + 1) 69 [.slice none 0 0, .int .u64 0] := Arr.grow ⟨by simp [heap_push, Array.getElem_push]⟩ hg
    have hgw : Grows w W0 := Grows.trans (by exact GG) hg
    obtain ⟨b4, e4⟩ : ∃ b, w.heap.size = b := ⟨_, rfl⟩
    have hb : w.heap.size ≤ b4 := by omega
    rw [e4] at a4 a7 a8 ⊢
    clear e4 hg C1
    have hb2 : b4 < b4 + 1 ∧ b4 + 1 < b4 + 1 + 1 := by omega
    generalize b4 + 1 + 1 = b8 at *
    generalize b4 + 1 = b7 at *
    obtain ⟨y, rfl⟩ := hgw.later
    clear hgw
    go_wp2_with fail
    have g5 : Grows w (cells5 y.now b7 (.bool false) (.slice An o.nn.length cn) (.slice Ae o.ne.length ce) (.slice Aw o.W.length cw) (.int .u64 0)) := Grows.set5 y.grows (by omega)
    refine (C2.out _ g5).mono ?_; rintro e W0 ⟨rfl, hg⟩
    replace g5 := g5.trans hg
    have c4 := (a4.other5 (b := b7) (by omega)).grow hg
    have c7 := (a7.set5).grow hg
    have c8 := (a8.other5 (b := b7) (by omega)).grow hg
    clear a4 a7 a8 hg
    obtain ⟨y1, rfl⟩ := g5.later
    clear g5
    go_wp2_with fail
    refine (C3.out _).mono ?_; rintro e W0 ⟨rfl, hg⟩
    replace c4 := c4.grow hg
    replace c7 := c7.grow hg
    replace c8 := c8.grow hg
    obtain ⟨y2, rfl⟩ := (y1.grows.trans hg).later
    clear hg
    go_wp2_with fail
    refine (C4.out _ GG).mono ?_; rintro e W0 ⟨gf, rfl, hrow, hgf, hg⟩
    have kf : Mine W0 ⟨gf, sN, none⟩ (.int .u64 (gn (outL NN xs) sN : Int)) := hrow.mine (j := sN) (wv_at (W := outL NN xs) (by rw [HDL.out]; exact hsN))
    have HROW := hide hrow
    replace c4 := (c4.grow ((Grows.refl _).new _)).grow hg
    replace c7 := (c7.grow ((Grows.refl _).new _)).grow hg
    replace c8 := (c8.grow ((Grows.refl _).new _)).grow hg
    have g8 := (y2.grows.new _).trans hg
    clear hg
    obtain ⟨y3, rfl⟩ := g8.later
    clear g8
    clear hrow
    go_wp2_with fail
    refine (C5.out _ GG).mono ?_; rintro e W0 ⟨ba, rfl, hA, hg⟩
    have HAD := hide hA
    have HROW := hide (HROW.out.grow hg)
    replace c4 := c4.grow hg
    replace c7 := c7.grow hg
    replace c8 := c8.grow hg
    have g9 := y3.grows.trans hg
    have hszA := hg.size
    clear kf hA hg
    obtain ⟨y4, rfl⟩ := g9.later
    clear g9
    have hgy := y4.grows.size
    have C7 := hide (fun (A9 : Option Addr) (c9 : Nat) (W1 : World) (g1 : Grows y4.now W1) (hr : Rd W1 A9 1 E.length (wv (wtF NN E o.W))) => show Calls Tryz.prog 51 #[.pointer (some ⟨ba, 0, none⟩), .int .i64 (sN : Int), .slice (some ⟨gf, 0, none⟩) NN NN, .slice A9 E.length c9, .agg #[.bool false, .slice An o.nn.length cn, .slice Ae o.ne.length ce, .slice Aw o.W.length cw, .int .u64 0]] W1 fun e w' =>
        ∃ A' c', e = .returned (.agg #[.slice A' l.length c', .int .u64 (gn (outL NN xs) sN : Int)]) ∧ Own w' W1.heap.size 3 1 A' l.length c' (nv l) ∧ Grows W1 w' from
      caFollow _ NN sN tN ba E (backO o) (outL NN xs) l _ A9 Ae NN c9 ce _ _ _ _ W1 (HAD.out.touch (g1.touch (fun _ => False)) (fun _ _ => id)) (fun k hk => Nat.lt_of_lt_of_le hk.2 g1.size) HOK.out.ok.srch.ends hsN hn (by have := HOK.out.bound.2.1; omega) HDL.out HOK.out.ok.wlen (fun i hi => (HOK.out.wb i hi).2) HOK.out.ok.nes
        (HROW.out.rd.grows g1) hr (HR.out.2.2.1.grows (y4.grows.trans g1)) ⟨⟨rfl, rfl⟩, rfl, rfl⟩ HFOL.out.1 HFOL.out.2)
    have C6 := hide (fun (W1 : World) (g1 : Grows w W1) => show Calls Tryz.prog 52 #[.agg #[.int .i64 (NN : Int), .slice A E.length c], .agg #[.bool false, .slice An o.nn.length cn, .slice Ae o.ne.length ce, .slice Aw o.W.length cw, .int .u64 0]] W1 fun e w' => ∃ u, e = .returned u ∧ Grows W1 w' ∧ RowP E.length (wv (wtF NN E o.W)) u w' from
      (djWeights NN A E.length c E false (.slice An o.nn.length cn) (.slice Ae o.ne.length ce) Aw o.W.length cw 0 o.W W1 (HR.out.1.grows g1) (HR.out.2.2.2.grows g1) hn hn3).mono (fun e w' h => by
        obtain ⟨A9, c9, rfl, ho, hg⟩ := h
        have e9 : (wtF NN E o.W).length = E.length := HOK.out.ok.wlen
        have ho := ho.rd
        rw [e9] at ho ⊢
        exact ⟨_, rfl, hg, A9, c9, rfl, ho⟩))
    have HW := hide (show w.heap.size ≤ y4.now.heap.size from y4.grows.size)
    clear HAD HROW HOK HFOL HDL hbd
    go_upto_region 13 with fail
    (refine wp_region_tail1 7 (by kernel_rfl) (by kernel_rfl) ?_; simp only [List.take_succ_cons, List.take_zero, List.drop_succ_cons, List.drop_zero]; (repeat' ((first | refine gLex_val0 rfl (by kernel_rfl) (fun K hK => ?_) | refine gLex_undef rfl rfl rfl (by kernel_rfl) (fun K hK => ?_) | (refine gLex_ask rfl rfl rfl ?_; first | (apply gAsk_yes; kernel_rfl; intro K hK) | ((first | apply gAsk_no1 | apply gAsk_no2); kernel_rfl; intro K hK))) <;> (go_simp; (try (simp only [↓IntWalk.iteOmega]; try go_simp)); (try simp (disch := omega) only [IntWalk.i64_in]); (try simp (disch := omega) only [IntWalk.u64_in]); refine hK _ ?_; clear hK K))))
    refine gLex_propW (by kernel_rfl) (by kernel_rfl) rfl (by simp) (RowP E.length (wv (wtF NN E o.W))) (RowP.lasts _ _) (fun x => by go_simp; exact C6.out _ GG) ?_
    (repeat' ((first | refine gLex_val0 rfl (by kernel_rfl) (fun K hK => ?_) | refine gLex_undef rfl rfl rfl (by kernel_rfl) (fun K hK => ?_) | (refine gLex_ask rfl rfl rfl ?_; first | (apply gAsk_yes; kernel_rfl; intro K hK) | ((first | apply gAsk_no1 | apply gAsk_no2); kernel_rfl; intro K hK))) <;> (go_simp; (try (simp only [↓IntWalk.iteOmega]; try go_simp)); (try simp (disch := omega) only [IntWalk.i64_in]); (try simp (disch := omega) only [IntWalk.u64_in]); refine hK _ ?_; clear hK K)))
    refine gLex_endT1 (by simp) (fun x v hv => ?_)
    obtain ⟨A9, c9, rfl, hr⟩ := hv
    have C8 := hide (C7.out A9 c9 x.now (show Grows y4.now x.now from GG) hr)
    clear hr C7 C6
    simp only [Act.put, List.setIfInBounds_toArray, List.set_cons_zero, List.set_cons_succ]
    go_wp2_with fail
    refine (C8.out).mono ?_; rintro e W0 ⟨A', c', rfl, ho, hg⟩
    have gx : Grows y4.now x.now := GG
    have c8' := c8.grow (gx.trans hg)
    have hb8 := c8.ty.lt
    have hgx := gx.size
    have hWo := HW.out
    have HO := hide ho
    have g9 := (y4.grows.trans gx).trans hg
    clear c4 c7 c8 gx hg ho C8
    obtain ⟨y5, rfl⟩ := g9.later
    clear g9
    have hbw : w.heap.size ≤ b8 := by omega
    have ho2 := (HO.out.low (q := ⟨b8, 0, none⟩) (by show b8 < _; omega) (.slice A' l.length c')).low (q := ⟨b8, 1, none⟩) (by show b8 < _; omega) (.int .u64 (gn (outL NN xs) sN : Int))
    have HO2 := hide (ho2.base (show w.heap.size ≤ x.now.heap.size by omega))
    have g10 : Grows w ((y5.now.setCell ⟨b8, 0, none⟩ (.slice A' l.length c')).setCell ⟨b8, 1, none⟩ (.int .u64 (gn (outL NN xs) sN : Int))) := (y5.grows.set (p := ⟨b8, 0, none⟩) hbw _).set (p := ⟨b8, 1, none⟩) hbw _
    clear ho2 HO
    go_wp2_with fail
    refine bodyPost_ret (v := .tuple #[.agg #[.slice A' l.length c', .int .u64 (gn (outL NN xs) sN : Int)], .int .i64 0]) (by simp (maxDischargeDepth := 6) [results, Tryz.results28, go_sem, *]) rfl ?_
    exact ⟨A', c', rfl, HO2.out, g10⟩
end Go.Proofs.YtkfobolbilhjbaaGreat

namespace Go.Proofs.YtkfobolbilhjbaaGreat
open Go Go.RowKit
def uv (L : List Int) : List Value := L.map (.int .u64)
theorem uv_len (L : List Int) : (uv L).length = L.length := by simp [uv]
theorem uv_at {L : List Int} {j : Nat} (h : j < L.length) : (uv L)[j]? = some (.int .u64 (gi L j)) := by simp [uv, gi, h]
theorem uv_one (n : Int) (L : List Int) (e : Nat) : uv (addOne n L e) = (uv L).set e (.int .u64 (IntKind.u64.wrap (gi L e + n))) := by simp [uv, addOne, List.map_set]
theorem Arr.own_ne {w : World} {g lo n c size : Nat} {t e : TypeId} {cs xs : List Value} {A : Option Addr} (h : Arr w g t cs) (ho : Own w lo e size A n c xs) (hte : t ≠ e) : ∀ p, A = some p → p.block ≠ g := fun p hp e1 => by
  have h1 := (ho.ty p hp).2.one (by rw [e1]; exact h.ty)
  exact absurd h1.symm hte
set_option maxRecDepth 20000 in
set_option maxHeartbeats 4000000 in
theorem fAssign1 (A : Option Addr) (c : Nat) (es : List Nat) (n : Int) (b g : Nat) (L : List Int) (lost : Value) (w : World) (hr : Rd w A 1 es.length (nv es)) (hes : es.length ≤ 1000000) (a : Arr w b 33 [.slice (some ⟨g, 0, none⟩) L.length L.length, lost]) (ag : Arr w g 26 (uv L))
    (he : ∀ e ∈ es, e < L.length) (hne : ∀ p, A = some p → p.block ≠ g) :
    Calls Tryz.prog 27 #[.slice A es.length c, .int .u64 n, .pointer (some ⟨b, 0, none⟩)] w fun e w' => (∃ v, e = .returned v) ∧ Arr w' g 26 (uv (addAt L n es)) ∧ Touch (fun k => k = g) w w' := by
  have HR := hide hr
  have HE := hide he
  have HN := hide hne
  have hbg : b ≠ g := a.ne ag (by decide)
  have HA := hide a
  have HG := hide ag
  clear hr he hne a ag
  go_enter Tryz.func27, Tryz.ntmps27
  go_wp2_with fail
  go_loopw [9] (fun i wr => ∃ k : Nat, k ≤ es.length ∧ i = .int .i64 (k : Int) ∧ Touch (fun k => k = g) w wr ∧ Arr wr g 26 (uv (addAt L n (es.take k)))) (fun i _ => es.length - (Go.RowKit.intOf i).toNat)
  case atStart => exact ⟨0, by omega, by go_num, Touch.refl _ _, by rw [List.take_zero]; exact HG.out⟩
  case round =>
    obtain ⟨k, hk, rfl, ht, ag⟩ := hrel
    have HT := hide ht
    by_cases hlt : k < es.length
    · have a1 := HA.out.touch ht hbg
      have hR2 := HR.out.touch ht HN.out
      obtain ⟨bE, oE, rfl, hc⟩ := hR2.at_ (by omega)
      have c1 : Holds wr ⟨bE, oE + k, none⟩ (.int .i64 (gn es k : Int)) := ⟨hc k _ (nv_at hlt)⟩
      have hin : gn es k < L.length := HE.out _ (by unfold gn; rw [List.getD_eq_getElem?_getD, List.getElem?_eq_getElem hlt]; exact List.getElem_mem hlt)
      have hll : (addAt L n (es.take k)).length = L.length := addAt_len _ _ _
      have m1 : Mine wr ⟨g, gn es k, none⟩ (.int .u64 (gi (addAt L n (es.take k)) (gn es k))) := ag.mine _ (uv_at (by rw [hll]; exact hin))
      have HS := hide (addAt_succ L n es k hlt)
      have HAG := hide ag
      clear hc ht ag hR2 hll
      generalize addAt L n (es.take k) = L' at *
      go_wp2_with fail
      go_roundw
      case measure => simp [Go.RowKit.intOf]; omega
      case rel =>
        refine ⟨k + 1, by omega, by go_num, HT.out.set (.inl rfl) _, ?_⟩
        rw [HS.out, uv_one]
        exact HAG.out.set _ _
    · have hke : es.take k = es := List.take_of_length_le (by omega)
      rw [hke] at ag
      have HAG := hide ag
      clear ag ht hke
      go_wp2_with fail
      go_end0
      exact ⟨⟨_, rfl⟩, HAG.out, HT.out⟩
end Go.Proofs.YtkfobolbilhjbaaGreat

