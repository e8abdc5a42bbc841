/- The law HierBuilt: for every input it returns true, and each argument reads as before. No condition. -/
import Derived.Test.YteodapefimlakaaQHierBuilt03
import Derived.Test.YteodapefimlakaaQContractBuilds09
import Derived.Test.YteodapefimlakaaQContractBuilds25
/- The law's walk: what is built of any graph is made of it, and full, and what a nil one says. -/
namespace Go.Proofs.Yteodapefimlakaa
open Go Go.RowKit
attribute [local go_sem] Oper.semAt_some
def E21 : List Edg := [⟨0, 1, 3⟩]
theorem ok21 : rightF (2 : Nat) E21 = 0 := by decide
theorem blt21 {r vs : List Nat} (h : InvR 2 r vs) : (blt 2 1 1 E21 vs).map Sc.si = [⟨0, 1, 3, 0, -1, -1⟩] := by
  have hl := h.vl
  match vs, hl with
  | [a, b], _ =>
    have h0 := (h.at_ 0 (by omega)).1
    have h1 := (h.at_ 1 (by omega)).1
    have hn := h.nodup
    have e0 : gn [a, b] 0 = a := rfl
    have e1 : gn [a, b] 1 = b := rfl
    rw [e0] at h0
    rw [e1] at h1
    have hab : a ≠ b := by
      rw [List.nodup_cons] at hn
      intro e
      exact hn.1 (by rw [e]; simp)
    rcases (by omega : (a = 0 ∧ b = 1) ∨ (a = 1 ∧ b = 0)) with ⟨rfl, rfl⟩ | ⟨rfl, rfl⟩
    · rfl
    · rfl
set_option maxRecDepth 20000 in
set_option maxHeartbeats 4000000 in
theorem alive21 (w : World) : Calls Try.prog 11 #[] w fun e w' => e = .returned (.bool true) ∧ Grows w w' := by
  have CB := hide (fun (b1 : Nat) (W : World) (h1 : Rd W (some ⟨b1, 0, none⟩) 3 1 (esCells E21)) => hiBuilt 2 (some ⟨b1, 0, none⟩) 1 1 E21 1 1 none 0 0 [] W h1 ok21 ⟨rfl, fun h => absurd h (by omega)⟩ (by decide) (by omega) (by omega) (.inl rfl))
  unfold GiveHB at CB
  have CS := hide (fun (b : Nat) (r : List Nat) (W : World) (h : HiAt W b 2 E21 r [⟨0, 1, 3, 0, -1, -1⟩]) => hiShortcut b 2 E21 r [⟨0, 1, 3, 0, -1, -1⟩] 0 W h (by simp))
  have CZ := hide (fun (b : Nat) (r : List Nat) (W : World) (h : HiAt W b 2 E21 r [⟨0, 1, 3, 0, -1, -1⟩]) => hiSize b 2 E21 r [⟨0, 1, 3, 0, -1, -1⟩] W h)
  have e : siVal (gsi [⟨0, 1, 3, 0, -1, -1⟩] 0) = .agg #[.int .i64 0, .int .i64 1, .int .u64 3, .int .i64 0, .int .i64 (-1), .int .i64 (-1)] := rfl
  rw [e] at CS
  simp only [List.length_cons, List.length_nil, Nat.zero_add] at CZ
  clear e
  go_enter Try.func11, Try.ntmps11
  go_wp2_with fail
  have e1 : Rd (w.alloc (.cells #[.int .i64 0, .int .i64 1, .int .u64 3] 96)) (some ⟨w.heap.size, 0, none⟩) 3 1 (esCells E21) :=
    ((Arr.make w [.int .i64 0, .int .i64 1, .int .u64 3] 96).row (n := 1) (size := 3) rfl (by omega)).rd
  have hgw : Grows w (w.alloc (.cells #[.int .i64 0, .int .i64 1, .int .u64 3] 96)) := (Grows.refl _).new _
  generalize w.alloc (.cells #[.int .i64 0, .int .i64 1, .int .u64 3] 96) = W1 at *
  generalize w.heap.size = b1 at *
  obtain ⟨y1, rfl⟩ := hgw.later
  clear hgw
  go_at_call 26
  refine (CB.out b1 _ e1).mono ?_
  rintro e w' ⟨b, r, vs, rfl, hI, _, hh, hg⟩
  obtain ⟨y2, rfl⟩ := hg.later
  rw [blt21 hI] at hh
  have HH := hide hh
  clear hg hh hI e1 CB
  go_wp2_with (first
    | (go_at_call 20; refine (CS.out b r _ (HH.out.grow GG)).mono ?_; rintro e w' ⟨rfl, hg⟩; obtain ⟨y3, rfl⟩ := hg.later; clear hg)
    | (go_at_call 15; refine (CZ.out b r _ (HH.out.grow GG)).mono ?_; rintro e w' ⟨rfl, rfl⟩))
  go_ret
  exact ⟨rfl, GG⟩
def HcP (N : Nat) (r : List Nat) (S : List SI) : Pr := fun u w => ∃ B d A c, u = .agg #[.slice B N d, .slice A S.length c] ∧ Rd w B 1 N (nv r) ∧ Rd w A 6 S.length (sis S) ∧ S.length ≤ c
theorem HcP.lasts (N : Nat) (r : List Nat) (S : List SI) : Lasts (HcP N r S) := fun _ _ _ hg ⟨B, d, A, c, e, h1, h2, h3⟩ => ⟨B, d, A, c, e, h1.grows hg, h2.grows hg, h3⟩
theorem field_g0 (w : World) : (Instr.field 24 (.agg #[.int .i64 0, .slice none 0 0]) 0).run Try.prog w = .ok (.int .i64 0) w := by kernel_rfl
theorem field_h0 (w : World) : (Instr.field 28 (.agg #[.slice none 0 0, .slice none 0 0]) 1).run Try.prog w = .ok (.slice none 0 0) w := by kernel_rfl
set_option maxRecDepth 40000 in
set_option maxHeartbeats 8000000 in
theorem hierBuiltW (N : Int) (A : Option Addr) (n c : Nat) (E : List Edg) (hops settles : Int) (B : Option Addr) (m d : Nat) (l : List Int) (v : Int) (w : World) (_ : I64 N) (_ : n ≤ c) (h : Rd w A 3 n (esCells E)) (_ : ∀ k, k < n → edgOk (ge E k)) (_ : I64 hops) (_ : I64 settles) (_ : m ≤ d) (hl : Rd w B 1 m (l.map (.int .i64))) (_ : ∀ z ∈ l, (Lit.int .i64 z).wf = true) (_ : I64 v) :
    Calls Try.prog 4 #[.agg #[.int .i64 N, .slice A n c], .agg #[.int .i64 hops, .int .i64 settles, .slice B m d], .int .i64 v] w fun e w' => e = .returned (.bool true) ∧ Grows w w' := by
  have CL := hide (fun (W : World) => lLight20 N A n c W)
  have CA := hide (fun (W : World) => alive21 W)
  have N1 := hide (fun (W : World) => hiShortcutNil v W)
  have N2 := hide (fun (W : World) => hiNodesNil W)
  have N3 := hide (fun (W : World) => hiSizeNil W)
  have N4 := hide (fun (W : World) => hiUpNil v true W)
  have N5 := hide (fun (W : World) => hiGraphNil W)
  have N6 := hide (fun (W : World) => hiHierarchyNil W)
  have N7 := hide (fun (W : World) => hiRankNil v W)
  have f1 := field_g0
  have f2 := field_h0
  cases hlb : light20B N n with
  | false =>
    rw [hlb] at CL
    clear h hl hlb
    go_enter Try.func4, Try.ntmps4
    go_wp2_with (first
      | (go_at_call 9; refine (CL.out _).mono ?_; rintro e w' ⟨rfl, hg⟩; obtain ⟨x1, rfl⟩ := hg.later; clear hg)
      | (go_at_call 11; refine (CA.out _).mono ?_; rintro e w' ⟨rfl, hg⟩; obtain ⟨x2, rfl⟩ := hg.later; clear hg))
    go_ret
    exact ⟨rfl, GG⟩
  | true =>
    rw [hlb] at CL
    obtain ⟨hN, hn⟩ := light20_of hlb
    clear hlb
    by_cases hm : 60 < m
    · have hmb : (60 : Int) < (m : Int) := by omega
      clear h hl hN hn
      go_enter Try.func4, Try.ntmps4
      go_wp2_with (first
        | (go_at_call 9; refine (CL.out _).mono ?_; rintro e w' ⟨rfl, hg⟩; obtain ⟨x1, rfl⟩ := hg.later; clear hg)
        | (go_at_call 11; refine (CA.out _).mono ?_; rintro e w' ⟨rfl, hg⟩; obtain ⟨x2, rfl⟩ := hg.later; clear hg))
      go_ret
      exact ⟨rfl, GG⟩
    · by_cases hbad : rightF N E ≠ 0 ∨ coRB hops settles l = false
      · have CB := hide (fun (W : World) (g : Grows w W) => coBuildBad N A n c E hops settles B m d l W (h.grows g) (by omega) (hl.grows g) (by omega) hbad)
        have CH := hide (fun (W : World) (g : Grows w W) => hiBuiltBad N A n c E hops settles B m d l W (h.grows g) (by omega) (hl.grows g) (by omega) hbad)
        clear h hl hN hn hbad
        go_enter Try.func4, Try.ntmps4
        go_wp2_with (first
          | (go_at_call 9; refine (CL.out _).mono ?_; rintro e w' ⟨rfl, hg⟩; obtain ⟨x1, rfl⟩ := hg.later; clear hg)
          | (go_at_call 20; refine (N1.out _).mono ?_; rintro e w' ⟨rfl, hg⟩; obtain ⟨x2, rfl⟩ := hg.later; clear hg)
          | (go_at_call 14; refine (N2.out _).mono ?_; rintro e w' ⟨rfl, rfl⟩)
          | (go_at_call 15; refine (N3.out _).mono ?_; rintro e w' ⟨rfl, rfl⟩)
          | (go_at_call 22; refine (N4.out _).mono ?_; rintro e w' ⟨rfl, hg⟩; obtain ⟨x3, rfl⟩ := hg.later; clear hg)
          | (go_at_call 17; refine (N5.out _).mono ?_; rintro e w' ⟨rfl, hg⟩; obtain ⟨x4, rfl⟩ := hg.later; clear hg)
          | (go_at_call 19; refine (N6.out _).mono ?_; rintro e w' ⟨rfl, hg⟩; obtain ⟨x5, rfl⟩ := hg.later; clear hg)
          | (go_at_call 21; refine (N7.out _).mono ?_; rintro e w' ⟨rfl, hg⟩; obtain ⟨x6, rfl⟩ := hg.later; clear hg)
          | (go_at_call 25; refine (CB.out _ GG).mono ?_; rintro e w' ⟨rfl, hg⟩; obtain ⟨x7, rfl⟩ := hg.later; clear hg)
          | (go_at_call 26; refine (CH.out _ GG).mono ?_; rintro e w' ⟨rfl, hg⟩; obtain ⟨x8, rfl⟩ := hg.later; clear hg)
          | (go_at_call 11; refine (CA.out _).mono ?_; rintro e w' ⟨rfl, hg⟩; obtain ⟨x9, rfl⟩ := hg.later; clear hg))
        go_ret
        exact ⟨rfl, GG⟩
      · have hok : rightF N E = 0 := Decidable.byContradiction fun e => hbad (.inl e)
        have hor : coRB hops settles l = true := by
          cases hb : coRB hops settles l with
          | true => rfl
          | false => exact absurd (.inr hb) hbad
        clear hbad
        by_cases hrg : 0 < m ∧ (m : Int) ≠ N
        · obtain ⟨hm0, hmN⟩ := hrg
          have CB := hide (fun (W : World) (g : Grows w W) => coBuildRange N A n c E hops settles B m d l W (h.grows g) (by omega) (hl.grows g) (by omega) hok hor hm0 hmN)
          have CH := hide (fun (W : World) (g : Grows w W) => hiBuiltRange N A n c E hops settles B m d l W (h.grows g) (by omega) (hl.grows g) (by omega) hok hor hm0 hmN)
          clear h hl hN hn hok hor hmN
          go_enter Try.func4, Try.ntmps4
          go_wp2_with (first
            | (go_at_call 9; refine (CL.out _).mono ?_; rintro e w' ⟨rfl, hg⟩; obtain ⟨x1, rfl⟩ := hg.later; clear hg)
            | (go_at_call 20; refine (N1.out _).mono ?_; rintro e w' ⟨rfl, hg⟩; obtain ⟨x2, rfl⟩ := hg.later; clear hg)
            | (go_at_call 14; refine (N2.out _).mono ?_; rintro e w' ⟨rfl, rfl⟩)
            | (go_at_call 15; refine (N3.out _).mono ?_; rintro e w' ⟨rfl, rfl⟩)
            | (go_at_call 22; refine (N4.out _).mono ?_; rintro e w' ⟨rfl, hg⟩; obtain ⟨x3, rfl⟩ := hg.later; clear hg)
            | (go_at_call 17; refine (N5.out _).mono ?_; rintro e w' ⟨rfl, hg⟩; obtain ⟨x4, rfl⟩ := hg.later; clear hg)
            | (go_at_call 19; refine (N6.out _).mono ?_; rintro e w' ⟨rfl, hg⟩; obtain ⟨x5, rfl⟩ := hg.later; clear hg)
            | (go_at_call 21; refine (N7.out _).mono ?_; rintro e w' ⟨rfl, hg⟩; obtain ⟨x6, rfl⟩ := hg.later; clear hg)
            | (go_at_call 25; refine (CB.out _ GG).mono ?_; rintro e w' ⟨rfl, hg⟩; obtain ⟨x7, rfl⟩ := hg.later; clear hg)
            | (go_at_call 26; refine (CH.out _ GG).mono ?_; rintro e w' ⟨rfl, hg⟩; obtain ⟨x8, rfl⟩ := hg.later; clear hg)
            | (go_at_call 11; refine (CA.out _).mono ?_; rintro e w' ⟨rfl, hg⟩; obtain ⟨x9, rfl⟩ := hg.later; clear hg))
          go_ret
          exact ⟨rfl, GG⟩
        · obtain ⟨k, rfl⟩ : ∃ k : Nat, N = (k : Int) := ⟨N.toNat, by have := (right_in hok).1; omega⟩
          have hk : k ≤ 12 := by have := (right_in hok).2.1; omega
          have hlim : (1 ≤ hops ∧ hops ≤ 1000 ∧ 1 ≤ settles ∧ settles ≤ 1000) ∧ rkB l = true := by
            unfold coRB at hor
            simp only [Bool.and_eq_true, decide_eq_true_eq] at hor
            exact hor
          obtain ⟨p, rfl⟩ : ∃ p : Nat, hops = (p : Int) := ⟨hops.toNat, by omega⟩
          obtain ⟨q, rfl⟩ : ∃ q : Nat, settles = (q : Int) := ⟨settles.toNat, by omega⟩
          have hmm : m = 0 ∨ m = k := by omega
          have hel := h.elen
          have CB := hide (fun (W : World) (g : Grows w W) => coBuildAny k A n c E p q B m d l W (h.grows g) hok (hl.grows g) hor hk hn hmm)
          have CH := hide (fun (W : World) (g : Grows w W) => hiBuilt k A n c E p q B m d l W (h.grows g) hok (hl.grows g) hor hk hn hmm)
          have CF := hide (fun (r vs : List Nat) (B2 : Option Addr) (d2 : Nat) (A2 : Option Addr) (c2 : Nat) (W : World) (g : Grows w W) (hi : InvR k r vs) (h1 : Rd W B2 1 k (nv r)) (h2 : Rd W A2 6 ((blt k p q E vs).map Sc.si).length (sis ((blt k p q E vs).map Sc.si))) (h3 : ((blt k p q E vs).map Sc.si).length ≤ c2) => by
            obtain ⟨b1, b2, b3⟩ := built_ok (hops := p) (settles := q) hok hk (by omega) hi
            have hlm : ((blt k p q E vs).map Sc.si).length = (blt k p q E vs).length := List.length_map ..
            rw [hlm] at h2 h3
            have := r21Full k A c E B2 d2 r A2 c2 (blt k p q E vs) W (by rw [hel]; exact h.grows g) hok h1 (by rw [sis_of]; exact h2) (Nat.le_trans b3 (by omega)) h3 b1 b2
            rw [hel, ← hlm] at this
            exact this)
          have CSZ := hide (fun (vs r : List Nat) (hi : InvR k r vs) => (show ((blt k p q E vs).map Sc.si).length ≤ 1000000 from by rw [List.length_map]; exact Nat.le_trans (built_ok (hops := p) (settles := q) hok hk (by omega) hi).2.2 (by omega)))
          unfold GiveH at CB
          unfold GiveHB at CH
          clear h hl hN hn hok hor hlim hel hrg hmm
          go_enter Try.func4, Try.ntmps4
          go_upto_region 13 with (first
            | (go_at_call 9; refine (CL.out _).mono ?_; rintro e w' ⟨rfl, hg⟩; obtain ⟨x1, rfl⟩ := hg.later; clear hg)
            | (go_at_call 20; refine (N1.out _).mono ?_; rintro e w' ⟨rfl, hg⟩; obtain ⟨x2, rfl⟩ := hg.later; clear hg)
            | (go_at_call 14; refine (N2.out _).mono ?_; rintro e w' ⟨rfl, rfl⟩)
            | (go_at_call 15; refine (N3.out _).mono ?_; rintro e w' ⟨rfl, rfl⟩)
            | (go_at_call 22; refine (N4.out _).mono ?_; rintro e w' ⟨rfl, hg⟩; obtain ⟨x3, rfl⟩ := hg.later; clear hg)
            | (go_at_call 17; refine (N5.out _).mono ?_; rintro e w' ⟨rfl, hg⟩; obtain ⟨x4, rfl⟩ := hg.later; clear hg)
            | (go_at_call 19; refine (N6.out _).mono ?_; rintro e w' ⟨rfl, hg⟩; obtain ⟨x5, rfl⟩ := hg.later; clear hg)
            | (go_at_call 21; refine (N7.out _).mono ?_; rintro e w' ⟨rfl, hg⟩; obtain ⟨x6, rfl⟩ := hg.later; clear hg)
            | (go_at_call 25; refine (CB.out _ GG).mono ?_; rintro e w' ⟨gr, cr, As, cs, r, vs, rfl, _, _, _, _, _, hg⟩; obtain ⟨x7, rfl⟩ := hg.later; clear hg)
            | (go_at_call 26; refine (CH.out _ GG).mono ?_; rintro e w' ⟨b, r2, vs2, rfl, hI, _, hh, hg⟩; obtain ⟨x8, rfl⟩ := hg.later; have HI := hide hI; have HH := hide hh; clear hI hh hg))
          have hgw : Grows w x8.now := GG
          have a3 : Arr x8.now w.heap.size 24 [.int .i64 (k : Int), .slice A n c] := ((Arr.make w [.int .i64 (k : Int), .slice A n c] 24).grow ((Grows.refl _).new (.cells #[.int .i64 (p : Int), .int .i64 (q : Int), .slice B m d] 54))).grow (show Grows _ x8.now from GG)
          have KH := hide (fun (W : World) (g : Grows x8.now W) => hiHierarchy b k E r2 _ W (HH.out.grow g) (by omega) (CSZ.out vs2 r2 HI.out))
          have KN := hide (fun (W : World) (g : Grows x8.now W) => calls_same (hiNodes b k E r2 _ W (HH.out.grow g)))
          have CF2 := hide (fun (B2 : Option Addr) (d2 : Nat) (A2 : Option Addr) (c2 : Nat) (W : World) (g : Grows w W) => CF.out r2 vs2 B2 d2 A2 c2 W g HI.out)
          unfold GiveHR at KH
          clear CB CH CL N1 N2 N3 N4 N5 N6 N7 f1 f2 CF CSZ HH HI
          generalize (blt k p q E vs2).map Sc.si = SS at *
          generalize x8.now = W8 at *
          obtain ⟨y8, rfl⟩ := hgw.later
          generalize w.heap.size = b3 at *
          refine wp_region_gen (by kernel_rfl) (by kernel_rfl) ?_
          (repeat' (first | (refine gLex_val0 rfl (by kernel_rfl) (fun K hK => ?_); (go_simp; (try (simp only [↓IntWalk.iteOmega]; try go_simp)); (try simp (disch := omega) only [IntWalk.i64_in]); (try simp (disch := omega) only [IntWalk.u64_in]); first | (refine hK _ ?_; clear hK K) | (apply Exists.intro; refine ⟨fun x => ?_, hK _ ?_⟩; (first | fail); clear hK K))) | (refine gLex_undef rfl rfl rfl (by kernel_rfl) (fun K hK => ?_); go_simp; refine hK _ ?_; clear hK K) | (refine gLex_ask rfl rfl rfl ?_; first | (apply gAsk_yes; kernel_rfl; intro K hK; (go_simp; (try (simp only [↓IntWalk.iteOmega]; try go_simp)); (try simp (disch := omega) only [IntWalk.i64_in]); (try simp (disch := omega) only [IntWalk.u64_in]); first | (refine hK _ ?_; clear hK K) | (apply Exists.intro; refine ⟨fun x => ?_, hK _ ?_⟩; (first | fail); clear hK K))) | ((first | apply gAsk_no1 | apply gAsk_no2); kernel_rfl; intro K hK; simp [go_sem]; refine hK _ ?_; clear hK K))))
          refine gLex_propG (by kernel_rfl) (by kernel_rfl) rfl (by simp) (HcP k r2 SS) (HcP.lasts _ _ _) (fun y => by
            go_simp
            refine (KH.out _ GG).mono ?_
            rintro e w' ⟨B9, d9, A9, c9, rfl, h1, h2, h3, hg⟩
            exact ⟨_, rfl, hg, B9, d9, A9, c9, rfl, h1, h2, h3⟩) ?_
          refine gLex_depV (t0 := 83) (by kernel_rfl) (by kernel_rfl) rfl (by simp) (.bool true) (fun y u1 hu1 => by
            obtain ⟨B9, d9, A9, c9, rfl, h1, h2, h3⟩ := hu1
            have CF3 := hide (CF2.out B9 d9 A9 c9 _ (hgw.trans y.grows) h1 h2 h3)
            clear h1 h2 h3
            go_simp
            exact CF3.out) ?_
          simp only [Act.put, List.setIfInBounds_toArray, List.set_cons_zero, List.set_cons_succ]
          (repeat' (first | (refine gLex_val0 rfl (by kernel_rfl) (fun K hK => ?_); (go_simp; (try (simp only [↓IntWalk.iteOmega]; try go_simp)); (try simp (disch := omega) only [IntWalk.i64_in]); (try simp (disch := omega) only [IntWalk.u64_in]); first | (refine hK _ ?_; clear hK K) | (apply Exists.intro; refine ⟨fun x => ?_, hK _ ?_⟩; (first | (go_at_call 14; exact KN.out _ GG) | (go_at_call 11; exact CA.out _)); clear hK K))) | (refine gLex_undef rfl rfl rfl (by kernel_rfl) (fun K hK => ?_); go_simp; refine hK _ ?_; clear hK K) | (refine gLex_ask rfl rfl rfl ?_; first | (apply gAsk_yes; kernel_rfl; intro K hK; (go_simp; (try (simp only [↓IntWalk.iteOmega]; try go_simp)); (try simp (disch := omega) only [IntWalk.i64_in]); (try simp (disch := omega) only [IntWalk.u64_in]); first | (refine hK _ ?_; clear hK K) | (apply Exists.intro; refine ⟨fun x => ?_, hK _ ?_⟩; (first | (go_at_call 14; exact KN.out _ GG) | (go_at_call 11; exact CA.out _)); clear hK K))) | ((first | apply gAsk_no1 | apply gAsk_no2); kernel_rfl; intro K hK; simp [go_sem]; refine hK _ ?_; clear hK K))))
          refine gLex_endB (fun x9 => ?_)
          refine AtB.pop rfl (by simp) (fun z1 _ => ?_)
          refine AtB.base ?_
          simp only [Act.put, List.setIfInBounds_toArray, List.set_cons_zero, List.set_cons_succ]
          go_wp2_with fail
          go_ret
          exact ⟨rfl, GG⟩
end Go.Proofs.Yteodapefimlakaa

/- The law HierBuilt: for every input it returns true, and each argument reads as before. No condition. -/
namespace Go.Proofs.Yteodapefimlakaa.lawHierBuilt
open Go Go.ChangeShapes Go.WideShapes Go.ChangeAt Go.RowKit Go.Proofs.Yteodapefimlakaa

theorem own : ownKnob Try.prog.godebug = none := by kernel_rfl
theorem laidOut : laidOutB Try.prog = true := by kernel_rfl

set_option maxRecDepth 100000 in
theorem lifted (os : Os) (started : os.Started) (H : Type) (enc : TypeId × Value → H) :
    ReturnsInHanded {} Try.checked os 4 .any (Rows.hierBuiltSpec.pre6 enc Try.prog Try.f4 Rows.hierBuiltRow.domain false) (Rows.hierBuiltSpec.post enc Try.prog Try.f4 false true false false) := by
  refine returnsInHanded_of_change (C := Try.checked) own started (by kernel_rfl) Try.func4
    (ChangeSpec.witness6 (enc := enc) (C := Try.checked) false ⟨#[], #[.agg #[.int .i64 0, .slice none 0 0], .agg #[.int .i64 0, .int .i64 0, .slice none 0 0], .int .i64 0], []⟩ 8 (by kernel_rfl) (by kernel_rfl) (by kernel_rfl) (by kernel_rfl)) ?_
  intro W base args ds gs before hval0 hW hcnd _
  have hval : ∀ (j : Nat) t v, Try.f4.params[j]? = some t → args[j]? = some v → Value.okWide Try.prog W .any base t v := hval0
  have hW' := hW
  obtain ⟨p, q, hA0, hV, rfl, hfz, hnd⟩ := hW
  have hA : DataW.TrodAll enc Try.prog W 0 (fun _ => true) true Try.f4.params.toList args.toList ds p := hA0
  rw [Try.params4] at hA hval
  obtain ⟨v0, vs0, d0, ds0, p0, q0, hargs, rfl, rfl, h0, r0⟩ := trodAll_cons hA
  obtain ⟨v1, vs1, d1, ds1, p1, q1, rfl, rfl, rfl, h1, r1⟩ := trodAll_cons r0
  obtain ⟨v2, vs2, d2, ds2, p2, q2, rfl, rfl, rfl, h2, r2⟩ := trodAll_cons r1
  obtain ⟨rfl, rfl, rfl⟩ := trodAll_nil r2
  obtain rfl : args = #[v0, v1, v2] := by cases args; simp_all
  obtain ⟨rfl, rfl⟩ := trodVars_none hV
  have k0 := h0
  have lt0 : ∀ x ∈ p0, x.block < W.heap.size := by obtain ⟨m, hm⟩ := k0; exact DataW.trod_lt m _ _ _ hm
  obtain ⟨a0, A0, n0, c0, z0, rfl, x0, l0, w0, u0⟩ := open_graph Try.underlying24 Try.underlying3 Try.underlying22 Try.underlying96 Try.underlying3 Try.underlying3 Try.underlying43 ⟨rfl, rfl, rfl⟩ ⟨by kernel_rfl, by kernel_rfl, by kernel_rfl⟩ (by kernel_rfl) (by kernel_rfl) (by kernel_rfl) (hval 0 24 v0 rfl rfl) h0
  have k1 := h1
  have lt1 : ∀ x ∈ p1, x.block < W.heap.size := by obtain ⟨m, hm⟩ := k1; exact DataW.trod_lt m _ _ _ hm
  obtain ⟨a1, b1, A1, n1, c1, z1, rfl, x1, y1, l1, w1, u1⟩ := open_copt Try.underlying54 Try.underlying3 Try.underlying3 Try.underlying25 Try.underlying3 (by kernel_rfl) (by kernel_rfl) (by kernel_rfl) (hval 1 54 v1 rfl rfl) h1
  have k2 := h2
  have lt2 : ∀ x ∈ p2, x.block < W.heap.size := by obtain ⟨m, hm⟩ := k2; exact DataW.trod_lt m _ _ _ hm
  obtain ⟨a2, rfl, w2⟩ := open_i64 Try.underlying3 (hval 2 3 v2 rfl rfl) h2
  clear hA0 hval0
  refine (hierBuiltW a0 A0 n0 c0 z0 a1 b1 A1 n1 c1 z1 a2 W x0 l0 w0 u0 x1 y1 l1 w1 u1 w2).mono fun e W' ⟨he, bel⟩ => ?_
  subst he
  exact ⟨_, rfl, _, _, _, [], _, [], hW', trodAll_mk1 (shut_bool Try.underlying4 _), (trodAll_cons_mk (Below.trod laidOut (by kernel_rfl) (of_decide_eq_true (by kernel_rfl)) k0 bel lt0) (trodAll_cons_mk (Below.trod laidOut (by kernel_rfl) (of_decide_eq_true (by kernel_rfl)) k1 bel lt1) (trodAll_cons_mk (Below.trod laidOut (by kernel_rfl) (of_decide_eq_true (by kernel_rfl)) k2 bel lt2) trodAll_mk0))), rfl, Below.frame bel _, fun h => by cases h⟩

theorem over : Rows.hierBuiltRow.holds Try.pinned (OpenSpec.ofChange Rows.hierBuiltSpec) :=
  OpenClaim.holds_of_wide 4 Try.f4 rfl rfl rfl rfl rfl rfl rfl ⟨rfl, rfl, rfl, rfl, rfl⟩ rfl rfl rfl rfl rfl (by kernel_rfl) Try.func4 (by kernel_rfl)
    (of_decide_eq_true (by kernel_rfl)) (by unfold Func.isWrapper; first | (rw [if_pos (by decide +kernel)]; kernel_rfl) | (rw [if_neg (by decide +kernel)]; exact ⟨rfl, rfl⟩))
    (fun os started H enc _ => lifted os started H enc)

end Go.Proofs.Yteodapefimlakaa.lawHierBuilt
namespace Go.Proofs.Yteodapefimlakaa
theorem hierBuilt_proved : Rows.HierBuiltSaid := lawHierBuilt.over
#print axioms hierBuilt_proved
end Go.Proofs.Yteodapefimlakaa
