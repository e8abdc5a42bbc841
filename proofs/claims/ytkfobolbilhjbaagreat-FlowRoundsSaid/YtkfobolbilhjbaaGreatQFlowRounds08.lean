/- Contract: a search, node by node; till it is told to end. -/
import Derived.WalkMore
import Derived.Test.YtkfobolbilhjbaaGreatQFlowRounds03
import Derived.Test.YtkfobolbilhjbaaGreatQFlowRounds07
namespace Go.Proofs.YtkfobolbilhjbaaGreat
open Go Go.RowKit
attribute [local go_sem] Oper.semAt_some
def RunI (F B : Nat → Prop) (x : Srch) (bx b2 : Nat) (J : List (Nat × Nat) → (Nat → Prop) → World → Prop) (all : List (Nat × Nat)) (Ds : List Nat) (m : Nat) (wr : World) : Prop :=
  ∃ st pre xs M S, m = xs.length ∧ all = pre ++ xs ∧ Trace x st xs ∧ DjAt F S wr x bx st.1 st.2 ∧ J pre M wr ∧ (∀ k, F k → B k ∨ M k) ∧ (∀ k, S k → M k) ∧ (∀ k, M k → k < wr.heap.size) ∧
    Arr wr b2 129 [.pointer (some ⟨bx, 0, none⟩)] ∧ (M b2 ∧ ¬ S b2) ∧ Marks Ds wr ∧ (∀ D ∈ Ds, M D ∧ ¬ S D)
def RunR (J Jx : List (Nat × Nat) → (Nat → Prop) → World → Prop) (all : List (Nat × Nat)) (e : Ending) (W' : World) : Prop :=
  (∃ v, e = .returned v) ∧ ((∃ M, J all M W') ∨ (∃ pre y rest M, all = pre ++ y :: rest ∧ Jx (pre ++ [y]) M W'))
def EachP (ba v : Nat) (back : Bool) (lo : Nat) : Pr := fun u w => ∃ b1, u = .func (.func 86) #[] #[.pointer (some ⟨b1, 0, none⟩), .pointer (some ⟨b1 + 1, 0, none⟩), .pointer (some ⟨b1 + 1 + 1, 0, none⟩)] ∧ lo ≤ b1 ∧
  Arr w b1 92 [.pointer (some ⟨ba, 0, none⟩)] ∧ Arr w (b1 + 1) 3 [.int .i64 (v : Int)] ∧ Arr w (b1 + 1 + 1) 4 [.bool back]
theorem EachP.lasts (ba v : Nat) (back : Bool) (lo : Nat) : Lasts (EachP ba v back lo) := fun _ _ _ hg ⟨b1, e, h, h1, h2, h3⟩ => ⟨b1, e, h, h1.grow hg, h2.grow hg, h3.grow hg⟩
theorem gLex_endQ1 {P : Program} {w0 : World} {ops : Array Oper} {Q : Exit → Act → World → Prop} {a : Act} {t : Tmp} {p : Pr} (hlt : t < a.tmps.size) (h : ∀ (x : Later w0) v, p v x.now → Q .normal (a.put (some t) v) x.now) :
    gLex P ops w0 (fun a G => ∀ w', Grows w0 w' → ∀ a', Conc G a a' w' → Q .normal a' w') [] a (Env.no.upd t p) :=
  fun w' hw a' hc => by
    obtain ⟨v, hv⟩ := conc_upd hc hlt
    rcases hv with ⟨hp, hc2⟩ | hne
    · rw [conc_no hc2]
      exact h ⟨w', hw⟩ v hp
    · exact absurd rfl hne
def InI (F : Nat → Prop) (x : Srch) (bx b2 b5 f lo : Nat) (S0 M0 : Nat → Prop) (J : List (Nat × Nat) → (Nat → Prop) → World → Prop) (pre : List (Nat × Nat)) (Ds : List Nat) (st0 : St) (p : List Nat) (Mi : Nat → Prop) (W : World) : Prop :=
  ∃ S MJ, DjAt F S W x bx (stepK x f st0 p).1 (stepK x f st0 p).2 ∧ J pre MJ W ∧ (∀ k, S k → MJ k) ∧ (∀ k, Mi k → MJ k) ∧ (∀ k, M0 k → MJ k) ∧ (∀ k, MJ k → k < W.heap.size) ∧ (∀ k, Mi k → lo ≤ k ∧ ¬ S k) ∧ (∀ k, S k → S0 k ∨ lo ≤ k) ∧
    Arr W b2 129 [.pointer (some ⟨bx, 0, none⟩)] ∧ Arr W b5 26 [.int .u64 (f : Int)] ∧ Marks Ds W ∧ lo ≤ W.heap.size
theorem InI.yields {F : Nat → Prop} {x : Srch} {bx b2 b5 f lo : Nat} {S0 M0 : Nat → Prop} {J : List (Nat × Nat) → (Nat → Prop) → World → Prop} {pre : List (Nat × Nat)} {Ds : List Nat} {st0 : St} (hJ : Yields' J) (hF : ∀ k, F k → k < lo) (h2 : b2 < lo) (h5 : b5 < lo) (hD : ∀ D ∈ Ds, D < lo) :
    Yields' (InI F x bx b2 b5 f lo S0 M0 J pre Ds st0) := by
  rintro p Mi W Mi' W' ⟨S, MJ, d, j, a1, a2, a3, a4, a5, a6, a7, a8, a9, a10⟩ ht hM'
  have hs := ht.size
  have bnd : ∀ k, (MJ k ∨ New W W' k) → (MJ k ∨ W.heap.size ≤ k) ∧ k < W'.heap.size := fun k hk => by
    rcases hk with hk | hk
    · exact ⟨.inl hk, Nat.lt_of_lt_of_le (a4 k hk) hs⟩
    · exact ⟨.inr hk.1, hk.2⟩
  refine ⟨S, fun k => MJ k ∨ New W W' k, d.touch ht (fun k hk e => by have := (a5 k e).1; have := hF k hk; omega) (fun k hk e => (a5 k e).2 hk), hJ pre MJ W _ W' j (ht.mono a2) bnd, fun k hk => .inl (a1 k hk), fun k hk => ?_, fun k hk => .inl (a3 k hk), fun k hk => (bnd k hk).2, fun k hk => ?_, a6,
    a7.touch ht (fun e => by have := (a5 _ e).1; omega), a8.touch ht (fun e => by have := (a5 _ e).1; omega), a9.touch ht (fun D hDD e => by have := (a5 _ e).1; have := hD D hDD; omega), Nat.le_trans a10 hs⟩
  · obtain ⟨h | h, h'⟩ := hM' k hk
    · exact .inl (a2 k h)
    · exact .inr ⟨h, h'⟩
  · obtain ⟨h | h, h'⟩ := hM' k hk
    · exact a5 k h
    · exact ⟨by omega, fun e => by have := a4 k (a1 k e); omega⟩
def FrameIn (bx l b2 b5 b8 i : Nat) (a' : Act) : Prop := ∃ v3 v4 v6 v9 v10 v11 v12 v13 v14 v15 v16 v17 v18 v19 v20 v21 v22 v23 v24 v25 v26 v27 v28 v29 v30 v31 v32 v33 v34 v35 v36 v37 v38 v39 v40 v41 v42 v43 v44 v45 v46 v47 v48 v49 v50 v51 v52 v53 v54 v55 v56 v57 v58 v59 v60 v61 v62 v63 v64 v65 : Value, a' = { tmps := #[.pointer (some ⟨bx, 0, none⟩), .func (.yield l) #[] #[], .pointer (some ⟨b2, 0, none⟩), v3, v4, .pointer (some ⟨b5, 0, none⟩), v6, .int .i64 (i : Int), .pointer (some ⟨b8, 0, none⟩), v9, v10, v11, v12, v13, v14, v15, v16, v17, v18, v19, v20, v21, v22, v23, v24, v25, v26, v27, v28, v29, v30, v31, v32, v33, v34, v35, v36, v37, v38, v39, v40, v41, v42, v43, v44, v45, v46, v47, v48, v49, v50, v51, v52, v53, v54, v55, v56, v57, v58, v59, v60, v61, v62, v63, v64, v65], defers := [] }
def IbAt (F : Nat → Prop) (x : Srch) (bx l b2 b5 f lo : Nat) (S0 M0 : Nat → Prop) (J : List (Nat × Nat) → (Nat → Prop) → World → Prop) (pre : List (Nat × Nat)) (Ds : List Nat) (st0 : St) (i : Nat) (a' : Act) (p : List Nat) (Mi : Nat → Prop) (W : World) : Prop :=
  ∃ b8, FrameIn bx l b2 b5 b8 i a' ∧ InI F x bx b2 b5 f lo S0 M0 J pre Ds st0 p Mi W ∧ Arr W b8 53 [.int .i64 (ge x.E i).f, .int .i64 (ge x.E i).t, .int .u64 (ge x.E i).w] ∧ ¬ Mi b8
theorem InI.quiet {F : Nat → Prop} {x : Srch} {bx b2 b5 f lo : Nat} {S0 M0 : Nat → Prop} {J : List (Nat × Nat) → (Nat → Prop) → World → Prop} {pre : List (Nat × Nat)} {Ds : List Nat} {st0 : St} {p : List Nat} {i : Nat} {Mi : Nat → Prop} {W : World} (h : InI F x bx b2 b5 f lo S0 M0 J pre Ds st0 p Mi W)
    (he : stepK x f st0 (p ++ [i]) = stepK x f st0 p) : InI F x bx b2 b5 f lo S0 M0 J pre Ds st0 (p ++ [i]) Mi W := by
  unfold InI at h ⊢
  rw [he]
  exact h
theorem InI.reached {F : Nat → Prop} {x : Srch} {bx b2 b5 f lo : Nat} {S0 M0 : Nat → Prop} {J : List (Nat × Nat) → (Nat → Prop) → World → Prop} {pre : List (Nat × Nat)} {Ds : List Nat} {st0 : St} {p : List Nat} {i : Nat} {Mi : Nat → Prop} {W : World} (h : InI F x bx b2 b5 f lo S0 M0 J pre Ds st0 p Mi W)
    (hJ : Yields' J) (b1 v g : Nat) (u : Int) (hu : u = (g : Int)) (he : stepK x f st0 (p ++ [i]) = reachS x.most (stepK x f st0 p) v g) (hto : v < x.N) (hok : HOk (stepK x f st0 p).2 x.N) (hm : x.most < 18446744073709551616) (h2 : b2 < lo ∧ ¬ S0 b2) (h5 : b5 < lo ∧ ¬ S0 b5) (hDs : ∀ D ∈ Ds, D < lo ∧ ¬ S0 D) (hB : b1 + 1 + 1 < lo) (hSb : ∀ k, S0 k → k < b1) :
    ∀ W', Grows W W' → Calls Tryz.prog 81 #[.pointer (some ⟨bx, 0, none⟩), .int .i64 (v : Int), .int .u64 u] W' fun e w' => e = .returned (.tuple #[]) ∧ Keeps (fun k => F k ∨ (b1 ≤ k ∧ k ≤ b1 + 1 + 1)) Mi W w' ∧ InI F x bx b2 b5 f lo S0 M0 J pre Ds st0 (p ++ [i]) Mi w' := by
  subst hu
  intro W' hg
  obtain ⟨S, MJ, d, j, a1, a2, a3, a4, a5, a6, a7, a8, a9, a10⟩ := h
  have hFS : ∀ k, F k → ¬ S k := fun k hk => by
    obtain ⟨_, _, _, _, _, _, _, _, q, _⟩ := d
    exact (q k hk).1
  refine (djReach F S x bx v g (stepK x f st0 p).1 (stepK x f st0 p).2 W' (d.grow hg) hto hok hm).mono ?_
  rintro e w' ⟨rfl, d', ht'⟩
  have hlow : ∀ k, k < lo → ¬ S0 k → ¬ S k := fun k hk hn e => by
    rcases a6 k e with h | h
    · exact hn h
    · omega
  have ht : Touch S W w' := (hg.touch S).trans ht'
  have hgs := hg.size
  have bnd : ∀ k, (MJ k ∨ New W w' k) → (MJ k ∨ W.heap.size ≤ k) ∧ k < w'.heap.size := fun k hk => by
    rcases hk with hk | hk
    · exact ⟨.inl hk, Nat.lt_of_lt_of_le (a4 k hk) ht.size⟩
    · exact ⟨.inr hk.1, hk.2⟩
  refine ⟨rfl, ht.keeps fun k hk e => ?_, fun k => S k ∨ New W' w' k, fun k => MJ k ∨ New W w' k, ?_, hJ pre MJ W _ w' j (ht.mono a1) bnd, fun k hk => ?_, fun k hk => .inl (a2 k hk), fun k hk => .inl (a3 k hk), fun k hk => (bnd k hk).2, fun k hk => ⟨(a5 k hk).1, fun e => ?_⟩, fun k hk => ?_,
    a7.touch ht (hlow _ h2.1 h2.2), a8.touch ht (hlow _ h5.1 h5.2), a9.touch ht (fun D hD => hlow _ (hDs D hD).1 (hDs D hD).2), Nat.le_trans a10 ht.size⟩
  · rcases e with (e | e) | e
    · exact hFS k e hk
    · exact hlow k (by omega) (fun h => by have := hSb k h; omega) hk
    · exact (a5 k e).2 hk
  · rw [he]
    exact d'
  · rcases hk with hk | hk
    · exact .inl (a1 k hk)
    · exact .inr ⟨Nat.le_trans hgs hk.1, hk.2⟩
  · rcases e with e | e
    · exact (a5 k hk).2 e
    · have := a4 k (a2 k hk); have := e.1; omega
  · rcases hk with hk | hk
    · exact a6 k hk
    · exact .inr (Nat.le_trans a10 (Nat.le_trans hgs hk.1))
theorem InI.over {F B : Nat → Prop} {x : Srch} {bx b2 b5 f lo v : Nat} {S M M1 : Nat → Prop} {J : List (Nat × Nat) → (Nat → Prop) → World → Prop} {pre xs all : List (Nat × Nat)} {Ds : List Nat} {st0 : St} {Mi : Nat → Prop} {W : World} {D : Nat} (h : InI F x bx b2 b5 f lo S (fun k => M k ∨ M1 k) J (pre ++ [(v, f)]) Ds st0 (rowX x v) Mi W)
    (hall : all = pre ++ (v, f) :: xs) (ht : Trace x (stepK x f st0 (rowX x v)) xs) (hF : ∀ k, F k → B k ∨ M k) (hD : ∀ D ∈ Ds, M D ∧ ¬ S D) (hDlo : ∀ D ∈ Ds, D < lo) (h2 : b2 < lo) (hMb : M b2) (hSb : ¬ S b2) (hlD : lo ≤ D) (hMD : Mi D) (hDW : W.heap[D]? = some (.deferred (some []))) :
    RunI F B x bx b2 J all (D :: Ds) xs.length W := by
  obtain ⟨SI, MJ, d, j, a1, a2, a3, a4, a5, a6, a7, a8, a9, a10⟩ := h
  refine ⟨_, pre ++ [(v, f)], xs, MJ, SI, rfl, by rw [hall]; simp, ht, d, j, fun k hk => ?_, a1, a4, a7, ⟨a3 _ (.inl hMb), fun e => ?_⟩, a9.cons hDW (fun e => by have := hDlo D e; omega), fun D' hD' => ?_⟩
  · rcases hF k hk with h | h
    · exact .inl h
    · exact .inr (a3 _ (.inl h))
  · rcases a6 _ e with h | h
    · exact hSb h
    · omega
  · rcases List.mem_cons.1 hD' with rfl | hD'
    · exact ⟨a2 _ hMD, (a5 _ hMD).2⟩
    · refine ⟨a3 _ (.inl (hD D' hD').1), fun e => ?_⟩
      rcases a6 _ e with h | h
      · exact (hD D' hD').2 h
      · have := hDlo D' hD'; omega
set_option maxRecDepth 40000 in
set_option maxHeartbeats 8000000 in
theorem djRun (F B : Nat → Prop) (x : Srch) (bx l : Nat) (J Jx : List (Nat × Nat) → (Nat → Prop) → World → Prop) (all : List (Nat × Nat)) (st : St) (pre xs : List (Nat × Nat)) (M S : Nat → Prop) (w : World) (hx : SrchOk x) (hJ : Yields' J) (hJx : Yields' Jx)
    (hY : ∀ pre y rest M W1, all = pre ++ y :: rest → J pre M W1 → YieldAt Fence.wide 0 Tryz.prog l (encD y) W1 fun e W' => (e = .returned (.bool true) ∧ J (pre ++ [y]) M W' ∧ Keeps B M W1 W') ∨ (e = .returned (.bool false) ∧ Jx (pre ++ [y]) M W' ∧ Keeps B M W1 W'))
    (hall : all = pre ++ xs) (ht : Trace x st xs) (hD : DjAt F S w x bx st.1 st.2) (hj : J pre M w) (hF : ∀ k, F k → B k ∨ M k) (hS : ∀ k, S k → M k) (hM : ∀ k, M k → k < w.heap.size) (hBs : ∀ k, B k → k < w.heap.size) :
    Calls Tryz.prog 82 #[.pointer (some ⟨bx, 0, none⟩), .func (.yield l) #[] #[]] w (RunR J Jx all) := by
  have H0 : Hid (RunI F B x bx w.heap.size J all [] xs.length (w.alloc (.cells #[.pointer (some ⟨bx, 0, none⟩)] 129))) := by
    have hg := (Grows.refl w).new (.cells #[.pointer (some ⟨bx, 0, none⟩)] 129)
    refine ⟨st, pre, xs, fun k => M k ∨ k = w.heap.size, S, rfl, hall, ht, hD.grow hg, hJ pre M w _ _ hj (hg.touch _) (fun k hk => ?_), fun k hk => ?_, fun k hk => .inl (hS k hk), fun k hk => ?_, Arr.make _ _ _, ⟨.inr rfl, fun e => ?_⟩, Marks.nil _, fun D h => by cases h⟩
    · rcases hk with hk | rfl
      · exact ⟨.inl hk, Nat.lt_of_lt_of_le (hM k hk) hg.size⟩
      · exact ⟨.inr (Nat.le_refl _), by simp⟩
    · rcases hF k hk with h | h
      · exact .inl h
      · exact .inr (.inl h)
    · rcases hk with hk | rfl
      · exact Nat.lt_of_lt_of_le (hM k hk) hg.size
      · simp
    · have := hM _ (hS _ e); omega
  have HJ := hide hJ
  have HJX := hide hJx
  have HY := hide hY
  have HX := hide hx
  have HBs := hide hBs
  clear hJ hJx hY hall ht hD hj hF hS hM hx hBs
  generalize hb2 : w.heap.size = b2 at *
  refine calls_of_marks Tryz.func82 rfl ?_
  simp only [Tryz.ntmps82, List.size_toArray, List.length_cons, List.length_nil, Nat.reduceAdd, Nat.reduceSub, Array.replicate_succ, Array.replicate_zero, List.push_toArray, List.append_toArray, List.nil_append, List.cons_append]
  go_wp2_with fail
  go_step3
  go_wp2_with fail
  go_step3
  go_wp2_with fail
  refine wp_loop_m (fun m a' wr => ∃ u3 u4 u5 u6 u7 u8 u9 u10 u11 u12 u13 u14 u15 u16 u17 u18 u19 u20 u21 u22 u23 u24 u25 u26 u27 u28 u29 u30 u31 u32 u33 u34 u35 u36 u37 u38 u39 u40 u41 u42 u43 u44 u45 u46 u47 u48 u49 u50 u51 u52 u53 u54 u55 u56 u57 u58 u59 u60 u61 u62 u63 u64 u65 Ds, a' = { tmps := #[.pointer (some ⟨bx, 0, none⟩), .func (.yield l) #[] #[], .pointer (some ⟨b2, 0, none⟩), u3, u4, u5, u6, u7, u8, u9, u10, u11, u12, u13, u14, u15, u16, u17, u18, u19, u20, u21, u22, u23, u24, u25, u26, u27, u28, u29, u30, u31, u32, u33, u34, u35, u36, u37, u38, u39, u40, u41, u42, u43, u44, u45, u46, u47, u48, u49, u50, u51, u52, u53, u54, u55, u56, u57, u58, u59, u60, u61, u62, u63, u64, u65], defers := marks Ds } ∧ RunI F B x bx b2 J all Ds m wr) ?_ ?_
  · exact ⟨xs.length, by
      (repeat apply Exists.intro)
      exact ⟨rfl, H0.out⟩⟩
  · rintro m a' wr ⟨u3, u4, u5, u6, u7, u8, u9, u10, u11, u12, u13, u14, u15, u16, u17, u18, u19, u20, u21, u22, u23, u24, u25, u26, u27, u28, u29, u30, u31, u32, u33, u34, u35, u36, u37, u38, u39, u40, u41, u42, u43, u44, u45, u46, u47, u48, u49, u50, u51, u52, u53, u54, u55, u56, u57, u58, u59, u60, u61, u62, u63, u64, u65, Ds, rfl, hI⟩
    obtain ⟨st, pre, xs, M, S, rfl, hall, ht, hD, hj, hF, hS, hM, ha2, ⟨hMb, hSb⟩, hMk, hDs⟩ := hI
    clear H0
    obtain ⟨bf, gf, bh, S2, q1, ⟨m, q2⟩, q3, ⟨q4, q5, q6⟩, q7, q8, q9, q10⟩ := hD
    have Q1 := hide q1
    obtain ⟨ba, o1, o2, o3, Aw, cw, bn, be, g1, g2, Wn, We, h1, _⟩ := q1
    have HJ0 := hide hj
    have HF := hide hF
    have HS := hide hS
    have HM := hide hM
    have HMK := hide hMk
    have HDS := hide hDs
    have HALL := hide hall
    have Q3 := hide q3
    clear hj hF hS hM hMk hDs hall q3
    cases ht with
    | done h0 =>
      have CP := hide (fun (W : World) (hg : Grows wr W) => hpPopNo bh st.2 S2 W (Q3.out.grow hg) h0)
      clear q2 q6 q7 q8 q10 h0
      go_wp2_with (go_at_call 94; refine (CP.out _ GG).mono ?_; rintro e w' ⟨rfl, hg⟩; obtain ⟨y, rfl⟩ := hg.later; clear hg)
      rw [Exit.noGoto_normal]
      have hgz : Grows wr (y.now.alloc (.cells #[.int .u64 0] 26)) := GG
      refine marks_end Ds rfl (HMK.out.touch (S := fun _ => False) (hgz.touch _) (fun _ _ => id)) (fun W' htt => ⟨_, results_none rfl _ _ _, ⟨_, rfl⟩, .inl ⟨M, ?_⟩⟩)
      have e := HALL.out
      rw [List.append_nil] at e
      rw [e]
      exact HJ.out pre M wr M W' HJ0.out ((hgz.touch M).trans (htt.mono fun k hk => (HDS.out k hk).1)) (fun k hk => ⟨.inl hk, Nat.lt_of_lt_of_le (HM.out k hk) (Nat.le_trans hgz.size htt.size)⟩)
    | step hs ht =>
      rename_i v f xs
      obtain ⟨i, hi1, hi2⟩ := hs.lies
      have htop := hs.top
      have CP := hide (hpPop bh x.N st.2 S2 i wr Q3.out (fun k hk => q8 k (q6 k hk).1) q10 hs.pos (by rw [htop]; exact hi1) hi2 hs.len)
      unfold GivePop at CP
      rw [htop] at CP
      have HDI : Hid ((st.2.drop v).In x.N) := drop_all_in q10 hi1 hi2
      have hvN : v < x.N := by have := q10.2 0 hs.pos; rw [htop] at this; exact this
      have HSO := hide hs
      have HTR := hide ht
      have Q2 := hide (show ∃ m, StL wr bf gf st.1 m from ⟨m, q2⟩)
      have Q6 := hide q6
      have Q7 := hide q7
      have Q8 := hide q8
      have Q9 := hide q9
      have hb2n : ¬ S2 b2 := fun e => hSb (q6 _ e).1
      have hbxn : ¬ S2 bx := by
        obtain ⟨_, _, _, _, _, _, _, _, _, _, _, _, _, _, _, _, _, f1, _⟩ := Q1.out
        exact fun e => (q7 _ f1).1 (q6 _ e).1
      clear q2 q6 q7 q8 q9 q10 hs ht hi1 hi2 htop
      go_upto_region 2 with (go_at_call 94; refine (CP.out).mono ?_; rintro e w1 ⟨rfl, hp, ht1⟩; have ha1 := h1.touch ht1 hbxn; have ha3 := ha2.touch ht1 hb2n; have HP := hide hp; have HT1 := hide ht1; clear hp ht1)
      have hS2S : ∀ k, S2 k → S k := fun k hk => (Q6.out k hk).1
      have hFS2 : ∀ k, F k → ¬ S2 k := fun k hk e => (Q7.out k hk).1 (hS2S k e)
      have hgz : Grows w1 (w1.alloc (.cells #[.int .u64 (f : Int)] 26)) := (Grows.refl _).new _
      have hz1 := HT1.out.size
      have hDj : DjAt F S (w1.alloc (.cells #[.int .u64 (f : Int)] 26)) x bx st.1 (st.2.drop v) := by
        obtain ⟨m, q2⟩ := Q2.out
        exact DjAt.grow ⟨bf, gf, bh, S2, Q1.out.touch HT1.out hFS2, ⟨m, q2.touch HT1.out (fun e => (Q6.out _ e).2 (.inl rfl)) (fun e => (Q6.out _ e).2 (.inr rfl))⟩, HP.out, ⟨q4, q5, Q6.out⟩,
          fun k hk => ⟨(Q7.out k hk).1, Nat.lt_of_lt_of_le (Q7.out k hk).2 hz1⟩, fun k hk => Nat.lt_of_lt_of_le (Q8.out k hk) hz1, Q9.out, HDI.out⟩ hgz
      have hTS : Touch S wr (w1.alloc (.cells #[.int .u64 (f : Int)] 26)) := (HT1.out.mono hS2S).grows hgz
      have hb5 : Arr (w1.alloc (.cells #[.int .u64 (f : Int)] 26)) w1.heap.size 26 [.int .u64 (f : Int)] := Arr.make _ _ _
      have hs5 : Hid (¬ S w1.heap.size) := fun e => by have := Q8.out _ e; omega
      have hb5s : wr.heap.size ≤ w1.heap.size ∧ w1.heap.size < (w1.alloc (.cells #[.int .u64 (f : Int)] 26)).heap.size := ⟨hz1, by simp⟩
      have hc1 : Arr (w1.alloc (.cells #[.int .u64 (f : Int)] 26)) b2 129 _ := ha3.grow hgz
      have hMK1 : Marks Ds (w1.alloc (.cells #[.int .u64 (f : Int)] 26)) := HMK.out.touch hTS (fun D hD => (HDS.out D hD).2)
      clear ha1 ha3 ha2 h1
      generalize w1.alloc (.cells #[.int .u64 (f : Int)] 26) = W1 at *
      generalize w1.heap.size = b5 at *
      have hJ1 : J pre (fun k => M k ∨ New wr W1 k) W1 := HJ.out pre M wr _ W1 HJ0.out (hTS.mono HS.out) (fun k hk => by
        rcases hk with hk | hk
        · exact ⟨.inl hk, Nat.lt_of_lt_of_le (HM.out k hk) hTS.size⟩
        · exact ⟨.inr hk.1, hk.2⟩)
      obtain ⟨fn, tmps, assign, body, hy, hR⟩ := HY.out _ _ _ _ _ HALL.out hJ1
      unfold encD at hy
      dsimp only at hy
      have HRR := hide hR
      have HDJ := hide hDj
      have HTS := hide hTS
      have HMK1 := hide hMK1
      have HB5 := hide hb5s
      clear hR hDj hTS hMK1 hJ1 hb5s hz1 HP HT1 HJ0 Q1 Q2 Q3 Q9 HDI hgz CP hS2S hFS2 Q6 hb2n hbxn
      refine (wpIn_wide (n := 0)).1 ?_
      gi_wp2
      refine HRR.out.mono ?_
      rintro e W2 (⟨rfl, hJ2, hk2⟩ | ⟨rfl, hJx2, hk2⟩)
      · have hF2 : ∀ k, F k → ¬ ¬ (B k ∨ (M k ∨ New wr W1 k)) := fun k hk e => e (by
          rcases HF.out k hk with h | h
          · exact .inl h
          · exact .inr (.inl h))
        have hD2 := HDJ.out.touch hk2 hF2 (fun k hk e => e (.inr (.inl (HS.out k hk))))
        have hc2 := hc1.touch hk2 (fun e => e (.inr (.inl hMb)))
        have hc5 := hb5.touch hk2 (fun e => e (.inr (.inr HB5.out)))
        have hMK2 := HMK1.out.keeps hk2 (fun D hD => .inl (HDS.out D hD).1)
        have HD2 := hide hD2
        have HJ2 := hide hJ2
        have HK2 := hide hk2
        have HMK2 := hide hMK2
        clear hJ2 hk2 hD2 hMK2 hF2 HMK1 HRR hc1 hb5
        obtain ⟨bf2, gf2, bh2, S22, p1, p2⟩ := HD2.out
        obtain ⟨ba2, o12, o22, o32, Aw2, cw2, bn2, be2, g12, g22, Wn2, We2, h12, hadj, _⟩ := p1
        have HADJ := hide hadj
        clear p2 hadj
        gi_wp2
        go_wp2_with fail
        refine wp_region_gen (by kernel_rfl) (by kernel_rfl) ?_
        (repeat' ((first | refine gLex_val0 rfl (by kernel_rfl) (fun K hK => ?_) | refine gLex_undef rfl rfl rfl (by kernel_rfl) (fun K hK => ?_) | (refine gLex_ask rfl rfl rfl ?_; first | (apply gAsk_yes; kernel_rfl; intro K hK) | ((first | apply gAsk_no1 | apply gAsk_no2); kernel_rfl; intro K hK))) <;> (go_simp; (try (simp only [↓IntWalk.iteOmega]; try go_simp)); (try simp (disch := omega) only [IntWalk.i64_in]); (try simp (disch := omega) only [IntWalk.u64_in]); refine hK _ ?_; clear hK K)))
        refine gLex_prop rfl (by kernel_rfl) rfl (by simp) (EachP ba2 v x.back W2.heap.size) (EachP.lasts _ _ _ _) (fun y => by
          go_simp
          refine (adjEach ba2 v x.back _).mono ?_
          rintro e w' ⟨b1, rfl, hb1, i1, i2, i3, hg⟩
          exact ⟨_, rfl, hg, b1, rfl, by have := y.size; omega, i1, i2, i3⟩) ?_
        refine gLex_endQ1 (by simp) (fun y3 vv hv => ?_)
        obtain ⟨b1, rfl, hb1, i1, i2, i3⟩ := hv
        simp only [Act.put, List.setIfInBounds_toArray, List.set_cons_zero, List.set_cons_succ]
        have hg3 : Grows W2 y3.now := y3.grows
        generalize y3.now = W3 at *
        have hi3 := i3.lt
        have hSb1 : Hid (∀ k, S k → k < b1) := fun k hk => by
          obtain ⟨_, _, _, _, _, _, _, _, _, q, _⟩ := HD2.out
          exact Nat.lt_of_lt_of_le (q k hk) hb1
        have hvN2 : v < x.N := hvN
        have HINI : Hid (InI F x bx b2 b5 f W3.heap.size S (fun k => M k ∨ New wr W1 k) J (pre ++ [(v, f)]) Ds (st.1, st.2.drop v) [] (fun _ => False) W3) := by
          refine ⟨S, fun k => (M k ∨ New wr W1 k) ∨ New W2 W3 k, HD2.out.grow hg3, HJ.out _ _ W2 _ W3 HJ2.out (hg3.touch _) (fun k hk => ?_), fun k hk => .inl (.inl (HS.out k hk)), fun k hk => hk.elim, fun k hk => .inl hk, fun k hk => ?_, fun k hk => hk.elim, fun k hk => .inl hk, hc2.grow hg3, hc5.grow hg3, HMK2.out.touch (S := fun _ => False) (hg3.touch _) (fun _ _ => id), Nat.le_refl _⟩
          · rcases hk with (hk | hk) | hk
            · exact ⟨.inl (.inl hk), Nat.lt_of_lt_of_le (HM.out k hk) (Nat.le_trans HTS.out.size (Nat.le_trans HK2.out.size hg3.size))⟩
            · exact ⟨.inl (.inr hk), Nat.lt_of_lt_of_le hk.2 (Nat.le_trans HK2.out.size hg3.size)⟩
            · exact ⟨.inr hk.1, hk.2⟩
          · rcases hk with (hk | hk) | hk
            · exact Nat.lt_of_lt_of_le (HM.out k hk) (Nat.le_trans HTS.out.size (Nat.le_trans HK2.out.size hg3.size))
            · exact Nat.lt_of_lt_of_le hk.2 (Nat.le_trans HK2.out.size hg3.size)
            · exact hk.2
        go_wp2_with fail
        have hFlo : ∀ k, F k → k < W3.heap.size := fun k hk => by
          obtain ⟨_, _, _, _, _, _, _, _, q, _⟩ := HD2.out
          exact Nat.lt_of_lt_of_le (q k hk).2 hg3.size
        have h2lo : b2 < W3.heap.size := Nat.lt_of_lt_of_le hc2.lt hg3.size
        have h5lo : b5 < W3.heap.size := Nat.lt_of_lt_of_le hc5.lt hg3.size
        have hDlo : ∀ D ∈ Ds, D < W3.heap.size := fun D hD => Nat.lt_of_lt_of_le (Array.getElem?_eq_some_iff.1 (HMK2.out.2 D hD)).1 hg3.size
        have hIy := InI.yields (x := x) (bx := bx) (b2 := b2) (b5 := b5) (f := f) (S0 := S) (M0 := fun k => M k ∨ New wr W1 k) (pre := pre ++ [(v, f)]) (Ds := Ds) (st0 := (st.1, st.2.drop v)) HJ.out hFlo h2lo h5lo hDlo
        have hA3 := HADJ.out.grows hg3
        have hed := HX.out.edges
        have hno := HX.out.nodes
        refine (wpIn_wide (n := 0)).1 ?_
        refine wp_rangeG (w0 := W3) (gf := 86) rfl (enters_of Tryz.func86 (by kernel_rfl) rfl)
          (each_gives F (fun k => F k ∨ (b1 ≤ k ∧ k ≤ b1 + 1 + 1)) (fun _ => False) ba2 x.N x.E v x.back b1 W3 hA3 (fun k hk => .inl (.inl hk)) HX.out.ends hvN (by omega) (by omega) (fun k hk => hk.elim) (.inl (.inr ⟨by omega, by omega⟩)) (.inl (.inr ⟨by omega, by omega⟩)) (.inl (.inr ⟨by omega, by omega⟩)) i1 i2 i3)
          (Keeps.refl _ _ _) (fun k hk => by rcases hk with hk | hk; exact hFlo k hk; omega) (fun k hk => hk.elim) (fun _ => rfl)
          (InI F x bx b2 b5 f W3.heap.size S (fun k => M k ∨ New wr W1 k) J (pre ++ [(v, f)]) Ds (st.1, st.2.drop v)) (fun _ _ _ _ => False) hIy (fun c _ _ _ _ _ h _ _ => h.elim) HINI.out
          (IbAt F x bx l b2 b5 f W3.heap.size S (fun k => M k ∨ New wr W1 k) J (pre ++ [(v, f)]) Ds (st.1, st.2.drop v)) ?hIb ?assign ?body ?done ?stop
        case hIb =>
          rintro i a' p Mi W Mi' W' ⟨b8, hfr, hI, hb8, hn⟩ ht hM'
          refine ⟨b8, hfr, hIy p Mi W Mi' W' hI ht hM', hb8.touch ht hn, fun e => ?_⟩
          have := hb8.lt
          rcases (hM' b8 e).1 with h | h
          · exact hn h
          · omega
        case assign =>
          intro l2 p i rest Mi W hsp hI
          have HI := hide hI
          clear hI
          unfold encE eVal
          gi_wp2
          have hgA : Grows W (W.alloc (.cells #[.int .i64 (ge x.E i).f, .int .i64 (ge x.E i).t, .int .u64 (ge x.E i).w] 53)) := (Grows.refl _).new _
          obtain ⟨SI, MJ, _, _, _, a2, _, a4, _⟩ := HI.out
          refine ⟨⟨W.heap.size, ?_, hIy p Mi W Mi _ HI.out (hgA.touch _) (fun k hk => ⟨.inl hk, Nat.lt_of_lt_of_le (a4 k (a2 k hk)) hgA.size⟩), Arr.make _ _ _, fun e => by have := a4 _ (a2 _ e); omega⟩, hgA.touch _⟩
          unfold FrameIn
          (repeat apply Exists.intro)
          rfl
        case body =>
          rintro l2 p i rest Mi a' W hsp hl2 hMl hrec ⟨b8, ⟨v3, v4, v6, v9, v10, v11, v12, v13, v14, v15, v16, v17, v18, v19, v20, v21, v22, v23, v24, v25, v26, v27, v28, v29, v30, v31, v32, v33, v34, v35, v36, v37, v38, v39, v40, v41, v42, v43, v44, v45, v46, v47, v48, v49, v50, v51, v52, v53, v54, v55, v56, v57, v58, v59, v60, v61, v62, v63, v64, v65, rfl⟩, hI, hb8, hn8⟩
          have HJY := hide hI
          obtain ⟨SI, MJ, d, j, a1, a2, a3, a4, a5, a6, a7, a8, a9, a10⟩ := hI
          have hiE : i < x.E.length := by
            have : (rowN (nN x.E x.back) x.E.length v)[p.length]? = some i := by rw [hsp]; simp
            exact rowN_lt _ this
          have hef := HX.out.ends.f i hiE
          have het := HX.out.ends.t i hiE
          have hto : toE x i < x.N := by unfold toE; split; exact hef.1; exact het.1
          rw [hef.2, het.2] at hb8
          have hok := HSO.out.rounds p (i :: rest) hsp
          have hfar := HSO.out.far i hiE
          obtain ⟨R, hR⟩ : ∃ R : World → Prop, R = fun w1 => Keeps (fun k => F k ∨ (b1 ≤ k ∧ k ≤ b1 + 1 + 1)) Mi W w1 ∧ InI F x bx b2 b5 f W3.heap.size S (fun k => M k ∨ New wr W1 k) J (pre ++ [(v, f)]) Ds (st.1, st.2.drop v) (p ++ [i]) Mi w1 := ⟨_, rfl⟩
          have hstep := stepK_snoc x f (st.1, st.2.drop v) p i
          unfold stepE at hstep
          have CR := hide (fun (hq : (!x.ne i && !x.nn (toE x i)) = true) (W' : World) (hg : Grows W W') => show Calls Tryz.prog 81 #[.pointer (some ⟨bx, 0, none⟩), .int .i64 (toE x i : Int), .int .u64 (IntKind.u64.wrap ((f : Int) + (gn x.W i : Int)))] W' (fun e w' => e = .returned (.tuple #[]) ∧ R w') from
            (InI.reached HJY.out HJ.out b1 (toE x i) (f + gn x.W i) (IntKind.u64.wrap ((f : Int) + (gn x.W i : Int))) ((IntWalk.u64_in _ (by omega)).trans (Int.natCast_add f (gn x.W i)).symm) (by rw [hstep, if_pos hq]) hto hok HX.out.most ⟨h2lo, hSb⟩ ⟨h5lo, hs5.out⟩ (fun D hD => ⟨hDlo D hD, (HDS.out D hD).2⟩) hi3 hSb1.out W' hg).mono (fun e w' h => ⟨h.1, by rw [hR]; exact h.2⟩))
          have CN := hide (fun (hq : (!x.ne i && !x.nn (toE x i)) = false) => show R W from by
            rw [hR]
            exact ⟨Keeps.refl _ _ _, HJY.out.quiet (by rw [hstep, hq, if_neg Bool.false_ne_true])⟩)
          refine wpIn_mono (Q := fun e _ w1 => e = .normal ∧ R w1) ?_ (fun e a2 w2 h => by
            obtain ⟨rfl, h⟩ := h
            rw [hR] at h
            exact h)
          obtain ⟨bf3, gf3, bh3, S23, p1, p2⟩ := d
          have CC := hide (djCounts F x bx bf3 bh3 i (toE x i) W p1 hiE hto hed hno)
          obtain ⟨ba3, o13, o23, o33, Aw3, cw3, bn3, be3, g13, g23, Wn3, We3, h13, _, ⟨hw3, _⟩, _⟩ := p1
          obtain ⟨gw, offw, rfl, hcw⟩ := hw3.at_ (by omega)
          have cw : Holds W ⟨gw, offw + i, none⟩ (.int .u64 (gn x.W i : Int)) := ⟨hcw i _ (wv_at (by rw [HX.out.wts]; exact hiE))⟩
          have hmix : Tryz.prog.follows .mixedOrders = true := by kernel_rfl
          have HHF := hide hef
          have HHT := hide het
          clear hR hstep hrec hMl hl2 hef het hok hsp p2 hw3 hcw a1 a2 a3 a4 a5 a6 a9 a10 j HJ2 HK2 HD2 HMK2 HINI hDlo hIy hFlo hA3 HADJ HTR HSO HALL HDS HM HS HF Q7 Q8 HB5 HTS HDJ i1 i2 i3 hc2 hc5 hs5 hSb1 HJY HJ HJX HY HX HBs hfar hi3 hb1 hvN2 hvN h2lo h5lo hg3
          generalize (!x.ne i && !x.nn (toE x i)) = q at *
          cases hbk : x.back with
          | true =>
            have hte : toE x i = fN x.E i := by unfold toE; rw [hbk]; rfl
            rw [hte] at CC CR hto
            rw [hbk] at h13
            clear hte hbk
            cases q with
            | true =>
              have CR2 := hide (CR.out rfl)
              clear CR CN
              gi_wp2_with (gi_at_call 95; refine (calls_in (wideF_round l2) CC.out).mono ?_; rintro e w' ⟨rfl, rfl⟩)
              refine wpIn_region_tailN 11 (wideF_round l2) rfl (by kernel_rfl) (by kernel_rfl) (by kernel_rfl) (by kernel_rfl) rfl ?_
              simp only [List.take_succ_cons, List.take_zero]
              (repeat' ((first | refine gLex_val0 rfl (by kernel_rfl) (fun K hK => ?_) | refine gLex_undef rfl rfl rfl (by kernel_rfl) (fun K hK => ?_) | (refine gLex_ask rfl rfl rfl ?_; first | (apply gAsk_yes; kernel_rfl; intro K hK) | ((first | apply gAsk_no1 | apply gAsk_no2); kernel_rfl; intro K hK))) <;> (go_simp; (try (simp only [↓IntWalk.iteOmega]; try go_simp)); (try simp (disch := omega) only [IntWalk.i64_in]); (try simp (disch := omega) only [IntWalk.u64_in]); refine hK _ ?_; clear hK K)))
              refine gLex_tail (fun y => ?_)
              go_simp
              refine (calls_in (wideF_round l2) (CR2.out _ y.grows)).mono ?_
              rintro e w' ⟨rfl, hk⟩
              have HK := hide hk
              clear hk
              gi_wp2
              exact HK.out
            | false =>
              have CN2 := hide (CN.out rfl)
              clear CR CN
              gi_wp2_with (gi_at_call 95; refine (calls_in (wideF_round l2) CC.out).mono ?_; rintro e w' ⟨rfl, rfl⟩)
              exact CN2.out
          | false =>
            have hte : toE x i = tN x.E i := by unfold toE; rw [hbk]; rfl
            rw [hte] at CC CR hto
            rw [hbk] at h13
            clear hte hbk
            cases q with
            | true =>
              have CR2 := hide (CR.out rfl)
              clear CR CN
              gi_wp2_with (gi_at_call 95; refine (calls_in (wideF_round l2) CC.out).mono ?_; rintro e w' ⟨rfl, rfl⟩)
              refine wpIn_region_tailN 11 (wideF_round l2) rfl (by kernel_rfl) (by kernel_rfl) (by kernel_rfl) (by kernel_rfl) rfl ?_
              simp only [List.take_succ_cons, List.take_zero]
              (repeat' ((first | refine gLex_val0 rfl (by kernel_rfl) (fun K hK => ?_) | refine gLex_undef rfl rfl rfl (by kernel_rfl) (fun K hK => ?_) | (refine gLex_ask rfl rfl rfl ?_; first | (apply gAsk_yes; kernel_rfl; intro K hK) | ((first | apply gAsk_no1 | apply gAsk_no2); kernel_rfl; intro K hK))) <;> (go_simp; (try (simp only [↓IntWalk.iteOmega]; try go_simp)); (try simp (disch := omega) only [IntWalk.i64_in]); (try simp (disch := omega) only [IntWalk.u64_in]); refine hK _ ?_; clear hK K)))
              refine gLex_tail (fun y => ?_)
              go_simp
              refine (calls_in (wideF_round l2) (CR2.out _ y.grows)).mono ?_
              rintro e w' ⟨rfl, hk⟩
              have HK := hide hk
              clear hk
              gi_wp2
              exact HK.out
            | false =>
              have CN2 := hide (CN.out rfl)
              clear CR CN
              gi_wp2_with (gi_at_call 95; refine (calls_in (wideF_round l2) CC.out).mono ?_; rintro e w' ⟨rfl, rfl⟩)
              exact CN2.out
        case done =>
          intro D Mi W hlD hMD hI hDW
          have HR := InI.over (B := B) hI HALL.out HTR.out HF.out HDS.out hDlo h2lo hMb hSb hlD hMD hDW
          refine ⟨xs.length, Nat.lt_succ_self _, ?_⟩
          (repeat apply Exists.intro)
          exact ⟨rfl, HR⟩
        case stop =>
          intro D c p i rest Mi W _ _ _ h _
          exact h.elim
      · have HMK2 := hide (HMK1.out.keeps hk2 (fun D hD => .inl (HDS.out D hD).1))
        have HJ2 := hide hJx2
        have HK2 := hide hk2
        clear hJx2 hk2
        gi_wp2
        go_wp2_with fail
        rw [Exit.noGoto_normal]
        refine marks_end Ds rfl HMK2.out (fun W' htt => ⟨_, results_none rfl _ _ _, ⟨_, rfl⟩, .inr ⟨pre, (v, f), xs, fun k => M k ∨ New wr W1 k, HALL.out, ?_⟩⟩)
        exact HJX.out _ _ W2 _ W' HJ2.out (htt.mono fun k hk => .inl (HDS.out k hk).1) (fun k hk => ⟨.inl hk, Nat.lt_of_lt_of_le (by
          rcases hk with hk | hk
          · exact Nat.lt_of_lt_of_le (HM.out k hk) HTS.out.size
          · exact hk.2) (Nat.le_trans HK2.out.size htt.size)⟩)
end Go.Proofs.YtkfobolbilhjbaaGreat

