/- The law StateStale: for every input it returns true, and each argument reads as before. No condition. -/
import Derived.Test.YteodapefimlakaaQStateStale03
import Derived.Test.YteodapefimlakaaQStateStale04
import Derived.Test.YteodapefimlakaaQStateStale00
import Derived.Test.YteodapefimlakaaQContractBuilds25
import Derived.Test.YteodapefimlakaaQContractBuilds09
/- The law's walk: behind a weight that is set there is no hierarchy till it is built again. -/
namespace Go.Proofs.Yteodapefimlakaa
open Go Go.RowKit
attribute [local go_sem] Oper.semAt_some
def GcP (N n : Nat) (E : List Edg) : Pr := fun u w => ∃ A c, u = .agg #[.int .i64 (N : Int), .slice A n c] ∧ Rd w A 3 n (esCells E)
theorem GcP.lasts (N n : Nat) (E : List Edg) : Lasts (GcP N n E) := fun _ _ _ hg ⟨A, c, e, h⟩ => ⟨A, c, e, h.grows hg⟩
theorem field_gE (N : Int) (A : Option Addr) (n c : Nat) (w : World) : (Instr.field 24 (.agg #[.int .i64 N, .slice A n c]) 1).run Try.prog w = .ok (.slice A n c) w := by kernel_rfl
set_option maxRecDepth 20000 in
set_option maxHeartbeats 4000000 in
theorem staleNo (N : Int) (A : Option Addr) (n c : Nat) (E : List Edg) (hops settles : Int) (B : Option Addr) (m d : Nat) (l : List Int) (e v : Int) (w : World) (h : Rd w A 3 n (esCells E)) (hl : Rd w B 1 m (l.map (.int .i64)))
    (hno : light20B N n = false ∨ 60 < m ∨ (light20B N n = true ∧ n ≤ 40 ∧ m ≤ 60 ∧ (coRB hops settles l = false ∨ rightF N E ≠ 0))) :
    Calls Try.prog 8 #[.agg #[.int .i64 N, .slice A n c], .agg #[.int .i64 hops, .int .i64 settles, .slice B m d], .int .i64 e, .int .u64 v] w fun e w' => e = .returned (.bool true) ∧ Grows w w' := by
  have CL := hide (fun (W : World) => lLight20 N A n c W)
  have CA := hide (fun (W : World) => alive39 W)
  cases hlb : light20B N n with
  | false =>
    rw [hlb] at CL
    clear h hl hlb hno
    go_enter Try.func8, Try.ntmps8
    go_wp2_with (first
      | (go_at_call 9; refine (CL.out _).mono ?_; rintro e w' ⟨rfl, hg⟩; obtain ⟨x1, rfl⟩ := hg.later; clear hg)
      | (go_at_call 44; refine (CA.out _).mono ?_; rintro e w' ⟨rfl, hg⟩; obtain ⟨x2, rfl⟩ := hg.later; clear hg))
    go_ret
    exact ⟨rfl, GG⟩
  | true =>
    rw [hlb] at CL
    by_cases hm : 60 < m
    · have hmb : (60 : Int) < (m : Int) := by omega
      clear h hl hlb hno
      go_enter Try.func8, Try.ntmps8
      go_wp2_with (first
        | (go_at_call 9; refine (CL.out _).mono ?_; rintro e w' ⟨rfl, hg⟩; obtain ⟨x1, rfl⟩ := hg.later; clear hg)
        | (go_at_call 44; refine (CA.out _).mono ?_; rintro e w' ⟨rfl, hg⟩; obtain ⟨x2, rfl⟩ := hg.later; clear hg))
      go_ret
      exact ⟨rfl, GG⟩
    · obtain ⟨hn, hbad⟩ : n ≤ 40 ∧ (coRB hops settles l = false ∨ rightF N E ≠ 0) := by
        rcases hno with hno | hno | hno
        · rw [hlb] at hno; cases hno
        · exact absurd hno hm
        · exact ⟨hno.2.1, hno.2.2.2⟩
      cases hco : coRB hops settles l with
      | false =>
        have CN := hide (fun (W : World) (g : Grows w W) => seNewBad hops settles B m d l W (hl.grows g) (by omega) hco)
        clear h hl hlb hno hbad hco
        go_enter Try.func8, Try.ntmps8
        go_wp2_with (first
          | (go_at_call 9; refine (CL.out _).mono ?_; rintro e w' ⟨rfl, hg⟩; obtain ⟨x1, rfl⟩ := hg.later; clear hg)
          | (go_at_call 45; refine (CN.out _ GG).mono ?_; rintro e w' ⟨rfl, hg⟩; obtain ⟨x3, rfl⟩ := hg.later; clear hg)
          | (go_at_call 44; refine (CA.out _).mono ?_; rintro e w' ⟨rfl, hg⟩; obtain ⟨x2, rfl⟩ := hg.later; clear hg))
        go_ret
        exact ⟨rfl, GG⟩
      | true =>
        have hr : rightF N E ≠ 0 := hbad.resolve_left (by rw [hco]; exact Bool.noConfusion)
        have CN := hide (fun (W : World) (g : Grows w W) => seNew hops settles B m d l W (hl.grows g) (by omega) hco)
        have CD := hide (fun (b : Nat) (B9 : Option Addr) (d9 : Nat) (W : World) (g : Grows w W) (hs : StAt W b ⟨hops, settles, B9, m, d9, 0, 0, none, 0, 0, none, 0, 0, 0⟩ l []) => seLoadBad b _ l [] N A n c E W hs ⟨Int.le_refl 0, (by decide : (0 : Int) ≤ 3)⟩ (h.grows g) (by omega) hr)
        unfold GiveSe at CN
        clear h hl hlb hno hbad hco hr
        go_enter Try.func8, Try.ntmps8
        go_wp2_with (first
          | (go_at_call 9; refine (CL.out _).mono ?_; rintro e w' ⟨rfl, hg⟩; obtain ⟨x1, rfl⟩ := hg.later; clear hg)
          | (go_at_call 45; refine (CN.out _ GG).mono ?_; rintro e w' ⟨b, B9, d9, rfl, hst, _, hg⟩; obtain ⟨x3, rfl⟩ := hg.later; have HST := hide hst; clear hg hst)
          | (go_at_call 46; refine (CD.out _ _ _ _ GG (HST.out.grow GG)).mono ?_; rintro e w' ⟨rfl, hg⟩; obtain ⟨x4, rfl⟩ := hg.later; clear hg)
          | (go_at_call 44; refine (CA.out _).mono ?_; rintro e w' ⟨rfl, hg⟩; obtain ⟨x2, rfl⟩ := hg.later; clear hg))
        go_ret
        exact ⟨rfl, GG⟩
def rkO (k m : Nat) (l : List Int) : List Int := if (m : Int) = (k : Int) then l else []
theorem coRB_nil {p q : Int} {l : List Int} (h : coRB p q l = true) : coRB p q [] = true := by
  unfold coRB at h ⊢
  simp only [Bool.and_eq_true, decide_eq_true_eq] at h ⊢
  exact ⟨h.1, by decide⟩
theorem coRB_of {p q : Int} {l l' : List Int} (h : coRB p q l = true) (h' : rkB l' = true) : coRB p q l' = true := by
  unfold coRB at h ⊢
  simp only [Bool.and_eq_true, decide_eq_true_eq] at h ⊢
  exact ⟨h.1, h'⟩
theorem rkB_inv {k p q : Nat} {E : List Edg} {r vs : List Nat} (hok : rightF (k : Int) E = 0) (hk : k ≤ 12) (hE : E.length ≤ 40) (hi : InvR k r vs) : rkB (nvI r) = true ∧ (nvI r).length = k ∧ ((blt k p q E vs).map Sc.si).length ≤ 1000000 := by
  obtain ⟨b1, b2, b3⟩ := built_ok (hops := p) (settles := q) hok hk hE hi
  have h3 : ((blt k p q E vs).map Sc.si).length ≤ 1000000 := by rw [List.length_map]; exact Nat.le_trans b3 (by omega)
  unfold madeSB at b1
  simp only [Bool.and_eq_true, decide_eq_true_eq] at b1
  exact ⟨b1.2.1, by have := b1.1; omega, h3⟩
set_option maxRecDepth 40000 in
set_option maxHeartbeats 16000000 in
theorem staleGo (k : Nat) (A : Option Addr) (n c : Nat) (E : List Edg) (p q : Nat) (B : Option Addr) (m d : Nat) (l : List Int) (e v : Int) (w : World) (h : Rd w A 3 n (esCells E)) (hl : Rd w B 1 m (l.map (.int .i64))) (hlb : light20B (k : Int) n = true) (hk : k ≤ 12) (hn : n ≤ 40) (hm : m ≤ 60) (hok : rightF (k : Int) E = 0) (hco : coRB (p : Int) (q : Int) l = true) :
    Calls Try.prog 8 #[.agg #[.int .i64 (k : Int), .slice A n c], .agg #[.int .i64 (p : Int), .int .i64 (q : Int), .slice B m d], .int .i64 e, .int .u64 v] w fun e w' => e = .returned (.bool true) ∧ Grows w w' := by
  have hel : E.length = n := h.elen
  have hlm : l.length = m := by simpa using hl.len
  have hk1 : 1 ≤ k := by have := (right_in hok).1; omega
  have hmb : (m : Int) ≤ 60 := by omega
  have CL := hide (fun (W : World) => lLight20 (k : Int) A n c W)
  rw [hlb] at CL
  have CA := hide (fun (W : World) => alive39 W)
  have CN := hide (fun (W : World) (g : Grows w W) => (seNew (p : Int) (q : Int) B m d l W (hl.grows g) (by omega) hco).mono (fun e' w' ⟨b, B9, d9, h1, h2, h3, h4⟩ => (⟨b, B9, d9, h1, h2, Nat.le_trans g.size h3, h4⟩ : ∃ b B9 d9, e' = Ending.returned (.tuple #[.pointer (some ⟨b, 0, none⟩), .int .i64 0]) ∧ StAt w' b ⟨(p : Int), (q : Int), B9, m, d9, 0, 0, none, 0, 0, none, 0, 0, 0⟩ l [] ∧ w.heap.size ≤ b ∧ Grows W w')))
  have CD := hide (fun (b : Nat) (B9 : Option Addr) (d9 : Nat) (W : World) (g : Grows w W) (hs : StAt W b ⟨(p : Int), (q : Int), B9, m, d9, 0, 0, none, 0, 0, none, 0, 0, 0⟩ l []) => seLoad b _ l [] (k : Int) A n c E W hs ⟨Int.le_refl 0, (by decide : (0 : Int) ≤ 3)⟩ (Nat.zero_le _) (h.grows g) (by omega) hok)
  unfold GiveSL at CD
  have hl' : (rkO k m l).length = 0 ∨ (rkO k m l).length = k := by
    unfold rkO
    split
    · exact .inr (by omega)
    · exact .inl rfl
  have hco' : coRB (p : Int) (q : Int) (rkO k m l) = true := by
    unfold rkO
    split
    · exact hco
    · exact coRB_nil hco
  have CB := hide (fun (b : Nat) (B9 : Option Addr) (d9 : Nat) (A9 : Option Addr) (c9 : Nat) (W : World) (hs : StAt W b ⟨(p : Int), (q : Int), B9, m, d9, 1, (k : Int), A9, n, c9, none, 0 + 1, 0, 0⟩ l E) => seBuild b _ l E k p q (rkO k m l) W hs ⟨Int.le_refl 1, (by decide : (1 : Int) ≤ 3)⟩ (Nat.zero_le _) rfl rfl rfl hok hco' hk hn hl' (fun W2 g2 => seRankO b _ l E W2 (hs.grow g2) rfl))
  unfold GiveSB at CB
  have CI := hide (fun (r vs : List Nat) (hi : InvR k r vs) => rkB_inv (p := p) (q := q) hok hk (by omega) hi)
  have CH := hide (fun (bh : Nat) (r vs : List Nat) (W : World) (hi : InvR k r vs) (hh : HiAt W bh k E r ((blt k p q E vs).map Sc.si)) => hiHierarchyO bh k E r _ W hh (by omega) (CI.out r vs hi).2.2)
  unfold GiveHO at CH
  have FH := field_hR
  have FE := field_gE
  have HA := hide h
  clear h hl hlb hl' hco' hlm
  go_enter Try.func8, Try.ntmps8
  go_upto_region 1 with fail
  have a4 : Arr ((w.alloc (.cells #[.int .i64 (k : Int), .slice A n c] 24)).alloc (.cells #[.int .i64 (p : Int), .int .i64 (q : Int), .slice B m d] 54)) w.heap.size 24 [.int .i64 (k : Int), .slice A n c] := (Arr.make w [.int .i64 (k : Int), .slice A n c] 24).grow ((Grows.refl _).new _)
  have a5 : Arr ((w.alloc (.cells #[.int .i64 (k : Int), .slice A n c] 24)).alloc (.cells #[.int .i64 (p : Int), .int .i64 (q : Int), .slice B m d] 54)) (w.heap.size + 1) 54 [.int .i64 (p : Int), .int .i64 (q : Int), .slice B m d] := by
    have h1 := Arr.make (w.alloc (.cells #[.int .i64 (k : Int), .slice A n c] 24)) [.int .i64 (p : Int), .int .i64 (q : Int), .slice B m d] 54
    simpa using h1
  have hw1 : Grows w ((w.alloc (.cells #[.int .i64 (k : Int), .slice A n c] 24)).alloc (.cells #[.int .i64 (p : Int), .int .i64 (q : Int), .slice B m d] 54)) := ((Grows.refl _).new _).new _
  generalize (w.alloc (.cells #[.int .i64 (k : Int), .slice A n c] 24)).alloc (.cells #[.int .i64 (p : Int), .int .i64 (q : Int), .slice B m d] 54) = W1 at *
  generalize w.heap.size + 1 = b5 at *
  obtain ⟨b4, hb4⟩ : ∃ b4, b4 = w.heap.size := ⟨_, rfl⟩
  rw [← hb4] at a4 ⊢
  obtain ⟨y1, rfl⟩ := hw1.later
  clear hw1 hb4
  go_wp2_with (go_at_call 9; refine (CL.out _).mono ?_; rintro e w' ⟨rfl, hg⟩; obtain ⟨x1, rfl⟩ := hg.later; clear hg)
  go_at_call 45
  refine (CN.out _ GG).mono ?_
  rintro e' w' ⟨b, B9, d9, rfl, hst, hbw, hg⟩
  obtain ⟨x2, rfl⟩ := hg.later
  have HST := hide hst
  clear hg hst CN CL
  go_wp2_with fail
  go_at_call 46
  refine (CD.out b B9 d9 _ GG HST.out).mono ?_
  rintro e' w2 ⟨A9, c9, rfl, hst, ht⟩
  have hgw2 : Grows w w2 := ht.later (show Grows w x2.now from GG) (fun k hk => by subst hk; exact hbw)
  have a4b := (a4.grow (show Grows y1.now x2.now from GG)).touch ht ((a4.grow (show Grows y1.now x2.now from GG)).ne HST.out.1 (by decide))
  obtain ⟨y2, rfl⟩ := hgw2.later
  have HST2 := hide hst
  clear a4 a5 ht hst HST CD
  go_wp2_with fail
  go_at_call 47
  refine (CB.out b B9 d9 A9 c9 _ HST2.out).mono ?_
  rintro e' w3 ⟨bh, r, vs, rfl, hI, _, hh, hst, ht⟩
  have hgw3 : Grows w w3 := ht.later (show Grows w y2.now from GG) (fun k hk => by subst hk; exact hbw)
  have a4c := a4b.touch ht (a4b.ne HST2.out.1 (by decide))
  obtain ⟨y3, rfl⟩ := hgw3.later
  have HST3 := hide hst
  have HI := hide hI
  have HH := hide hh
  have aS := hst.1
  unfold StV.cells at aS
  dsimp only at aS
  clear a4b ht hst hI hh HST2 CB
  have CHI := hide (fun (W : World) (h1 : Holds W ⟨b, 3, none⟩ (.int .i64 2)) (h2 : Holds W ⟨b, 6, none⟩ (.pointer (some ⟨bh, 0, none⟩))) => seHier b (some ⟨bh, 0, none⟩) W h1 h2)
  go_wp2_with (first
    | (go_at_call 48; refine (CHI.out _ inferInstance inferInstance).mono ?_; rintro e w' ⟨rfl, rfl⟩)
    | (go_at_call 19; refine (CH.out bh r vs _ HI.out (HH.out.grow GG)).mono ?_; rintro e w' ⟨B8, d8, A8, c8, rfl, ho, _, _, hg⟩; obtain ⟨x3, rfl⟩ := hg.later; have HO := hide ho; clear hg ho))
  go_at_call 49
  by_cases hf : chF E.length e v = 0
  · have hx : (0 ≤ e ∧ e < n) ∧ wtB v = true := by
      unfold chF edgeB at hf
      rw [hel] at hf
      split at hf
      · rename_i h1
        split at hf
        · rename_i h2
          exact ⟨of_decide_eq_true h1, h2⟩
        · cases hf
      · cases hf
    obtain ⟨⟨e0, e1⟩, hwt⟩ := hx
    obtain ⟨j, rfl⟩ : ∃ j : Nat, e = (j : Int) := ⟨e.toNat, by omega⟩
    have hj : j < n := by omega
    have hok' : rightF (k : Int) (setW E j v) = 0 := right_set hok (by omega) hwt
    have hel' : (setW E j v).length = n := by rw [setW_len]; exact hel
    have hgv : (ge (setW E j v) j).w = v := by rw [ge_setW _ _ _ _ (by omega), if_pos rfl]
    have HST4 := hide (HST3.out.grow (show Grows y3.now x3.now from GG))
    refine (seSet b _ l E (j : Int) v _ HST4.out ⟨(by decide : (1 : Int) ≤ 2), (by decide : (2 : Int) ≤ 3)⟩ (Nat.zero_le _) (show n ≤ 1000000 by omega) hok hf).mono ?_
    rintro e' w4 ⟨A7, c7, rfl, hst, ht⟩
    rw [Int.toNat_natCast] at hst
    have hst' : StAt w4 b ⟨(p : Int), (q : Int), B9, m, d9, 3, (k : Int), A7, n, c7, some ⟨bh, 0, none⟩, 0 + 1, 0 + 1, 0 + 1⟩ l (setW E j v) := hst
    have hgw4 : Grows w w4 := ht.later (show Grows w x3.now from GG) (fun k hk => by subst hk; exact hbw)
    have ho2 := HO.out.touch ht (fun p hp => HO.out.not_arr HST4.out.1 (by decide) p hp)
    have hh2 := (HH.out.grow (show Grows y3.now x3.now from GG)).touch HST4.out.1 ht
    obtain ⟨y4, rfl⟩ := hgw4.later
    have HST5 := hide hst'
    have HO2 := hide ho2
    have HH2 := hide hh2
    have aS4 := hst'.1
    unfold StV.cells at aS4
    dsimp only at aS4
    clear hst hst' ht ho2 hh2 HO HH HST4 HST3 aS a4c CHI CH
    have CHN := hide (fun (W : World) (h1 : Holds W ⟨b, 3, none⟩ (.int .i64 3)) => seHierNo b 3 W h1 (by omega) (by decide))
    rw [show mayF 3 2 = 13 by decide] at CHN
    go_wp2_with (go_at_call 48; refine (CHN.out _ inferInstance).mono ?_; rintro e w' ⟨rfl, rfl⟩)
    go_at_call 47
    refine (seBuild b _ l (setW E j v) k p q (nvI r) _ HST5.out ⟨(by decide : (1 : Int) ≤ 3), (by decide : (3 : Int) ≤ 3)⟩ (by decide : (0 : Nat) + 1 ≤ 1000000) rfl rfl rfl hok' (coRB_of hco (CI.out r vs HI.out).1) hk hn (.inr (CI.out r vs HI.out).2.1) (fun W2 g2 => seRankH b _ l (setW E j v) bh k E r _ W2 (HST5.out.grow g2) rfl (HH2.out.grow g2) (by omega) (CI.out r vs HI.out).2.2)).mono ?_
    rintro e' w5 ⟨bh2, r2, vs2, rfl, hI2, hrk2, hh3, hst, ht⟩
    have hr2 : nvI r2 = nvI r := hrk2 (by rw [(CI.out r vs HI.out).2.1]; omega)
    have hgw5 : Grows w w5 := ht.later (show Grows w y4.now from GG) (fun k hk => by subst hk; exact hbw)
    have ho3 := HO2.out.touch ht (fun p hp => HO2.out.not_arr HST5.out.1 (by decide) p hp)
    obtain ⟨y5, rfl⟩ := hgw5.later
    have HO3 := hide ho3
    have HH3 := hide hh3
    have HI2 := hide hI2
    have HR2 := hide hr2
    have aS5 := hst.1
    unfold StV.cells at aS5
    dsimp only at aS5
    clear hst ht ho3 hh3 hI2 hr2 hrk2 HO2 HH2 HST5 aS4 CHN
    have CI2 := hide (rkB_inv (p := p) (q := q) hok' hk (by omega) HI2.out)
    have CH2 := hide (fun (W : World) (g : Grows y5.now W) => hiHierarchyO bh2 k (setW E j v) r2 _ W (HH3.out.grow g) (by omega) CI2.out.2.2)
    unfold GiveHO at CH2
    have CG2 := hide (fun (W : World) (g : Grows y5.now W) => by
      have := hiGraph bh2 k (setW E j v) r2 _ W (HH3.out.grow g) (by omega)
      unfold GiveGR at this
      rw [hel'] at this
      exact this)
    have CS1 := hide (fun (B6 : Option Addr) (d6 : Nat) (W : World) (h1 : Rd W B6 1 k (nv r2)) (g : Grows y5.now W) => by
      have := r1Same B6 k d6 (nvI r2) B8 k d8 (nvI r) W (by rw [← nvI_vals]; exact h1) (by omega) (by rw [← nvI_vals]; exact HO3.out.rd.grows g) (by omega)
      rw [decide_eq_true HR2.out] at this
      exact this)
    have CHI2 := hide (fun (W : World) (h1 : Holds W ⟨b, 3, none⟩ (.int .i64 2)) (h2 : Holds W ⟨b, 6, none⟩ (.pointer (some ⟨bh2, 0, none⟩))) => seHier b (some ⟨bh2, 0, none⟩) W h1 h2)
    have hn0 : 0 < n := by omega
    clear hok hok' hco hf hel' CI2 HI2 HR2 HH3 HO3 CI HI HA hwt e0 e1
    go_wp2_with (first
      | (go_at_call 48; refine (CHI2.out _ inferInstance inferInstance).mono ?_; rintro e w' ⟨rfl, rfl⟩)
      | (go_at_call 19; refine (CH2.out _ GG).mono ?_; rintro e w' ⟨B6, d6, A6, c6, rfl, ho, _, _, hg⟩; obtain ⟨x5, rfl⟩ := hg.later; have HO6 := hide ho; clear hg ho)
      | (go_at_call 23; refine (CS1.out _ _ _ (HO6.out.rd.grows GG) GG).mono ?_; rintro e w' ⟨rfl, hg⟩; obtain ⟨x6, rfl⟩ := hg.later; clear hg)
      | (go_at_call 17; refine (CG2.out _ GG).mono ?_; rintro e w' ⟨A5, c5, rfl, h5, hg⟩; obtain ⟨x7, rfl⟩ := hg.later; obtain ⟨bb, off, rfl, hcc⟩ := h5.edgesH hn0; obtain ⟨_, _, k3⟩ := hcc j hj; rw [hgv] at k3; clear hg h5 hcc)
      | (go_at_call 44; refine (CA.out _).mono ?_; rintro e w' ⟨rfl, hg⟩; obtain ⟨x8, rfl⟩ := hg.later; clear hg))
    go_ret
    exact ⟨rfl, hgw5.trans GG⟩
  · have HST4 := hide (HST3.out.grow (show Grows y3.now x3.now from GG))
    have b1 : (chF E.length e v == (0 : Int)) = false := by simpa using hf
    refine (seSetBad b _ l E e v _ HST4.out ⟨(by decide : (1 : Int) ≤ 2), (by decide : (2 : Int) ≤ 3)⟩ (show n ≤ 1000000 by omega) hok hf).mono ?_
    rintro e' w' ⟨rfl, hg⟩
    obtain ⟨x4, rfl⟩ := hg.later
    clear hg hf
    generalize chF E.length e v = f at *
    go_upto_region 11 with (go_at_call 48; refine (CHI.out _ inferInstance inferInstance).mono ?_; rintro e w' ⟨rfl, rfl⟩)
    have hgw4 : Grows w x4.now := GG
    have KG := hide (fun (W : World) (g : Grows x4.now W) => by
      have := hiGraph bh k E r _ W ((HH.out.grow (show Grows y3.now x4.now from GG)).grow g) (by omega)
      unfold GiveGR at this
      rw [hel] at this
      exact this)
    have CS5 := hide (fun (A7 : Option Addr) (c7 : Nat) (W : World) (g : Grows w W) (h9 : Rd W A7 3 n (esCells E)) => r5Same (k : Int) A7 n c7 A c E W h9 (HA.out.grows g) (by omega))
    clear CHI CH HO HST3 HST4 HH HI CI aS
    refine wp_region_gen (by kernel_rfl) (by kernel_rfl) ?_
    (repeat' (first | (refine gLex_val0 rfl (by kernel_rfl) (fun K hK => ?_); (go_simp; (try (simp only [↓IntWalk.iteOmega]; try go_simp)); (try simp (disch := omega) only [IntWalk.i64_in]); (try simp (disch := omega) only [IntWalk.u64_in]); first | (refine hK _ ?_; clear hK K) | (apply Exists.intro; refine ⟨fun x => ?_, hK _ ?_⟩; (first | fail); clear hK K))) | (refine gLex_undef rfl rfl rfl (by kernel_rfl) (fun K hK => ?_); go_simp; refine hK _ ?_; clear hK K) | (refine gLex_ask rfl rfl rfl ?_; first | (apply gAsk_yes; kernel_rfl; intro K hK; (go_simp; (try (simp only [↓IntWalk.iteOmega]; try go_simp)); (try simp (disch := omega) only [IntWalk.i64_in]); (try simp (disch := omega) only [IntWalk.u64_in]); first | (refine hK _ ?_; clear hK K) | (apply Exists.intro; refine ⟨fun x => ?_, hK _ ?_⟩; (first | fail); clear hK K))) | ((first | apply gAsk_no1 | apply gAsk_no2); kernel_rfl; intro K hK; simp [go_sem]; refine hK _ ?_; clear hK K))))
    refine gLex_propG (by kernel_rfl) (by kernel_rfl) rfl (by simp) (GcP k n E) (GcP.lasts _ _ _) (fun y => by
      go_simp
      refine (KG.out _ GG).mono ?_
      rintro e w' ⟨A7, c7, rfl, h1, hg⟩
      exact ⟨_, rfl, hg, A7, c7, rfl, h1⟩) ?_
    (repeat' (first | (refine gLex_val0 rfl (by kernel_rfl) (fun K hK => ?_); (go_simp; (try (simp only [↓IntWalk.iteOmega]; try go_simp)); (try simp (disch := omega) only [IntWalk.i64_in]); (try simp (disch := omega) only [IntWalk.u64_in]); first | (refine hK _ ?_; clear hK K) | (apply Exists.intro; refine ⟨fun x => ?_, hK _ ?_⟩; (first | fail); clear hK K))) | (refine gLex_undef rfl rfl rfl (by kernel_rfl) (fun K hK => ?_); go_simp; refine hK _ ?_; clear hK K) | (refine gLex_ask rfl rfl rfl ?_; first | (apply gAsk_yes; kernel_rfl; intro K hK; (go_simp; (try (simp only [↓IntWalk.iteOmega]; try go_simp)); (try simp (disch := omega) only [IntWalk.i64_in]); (try simp (disch := omega) only [IntWalk.u64_in]); first | (refine hK _ ?_; clear hK K) | (apply Exists.intro; refine ⟨fun x => ?_, hK _ ?_⟩; (first | fail); clear hK K))) | ((first | apply gAsk_no1 | apply gAsk_no2); kernel_rfl; intro K hK; simp [go_sem]; refine hK _ ?_; clear hK K))))
    refine gLex_depV (t0 := 73) (by kernel_rfl) (by kernel_rfl) rfl (by simp) (.bool true) (fun y u1 hu1 => by
      obtain ⟨A7, c7, rfl, h1⟩ := hu1
      have CF3 := hide (CS5.out A7 c7 _ (hgw4.trans y.grows) h1)
      clear h1
      go_simp
      exact CF3.out) ?_
    simp only [Act.put, List.setIfInBounds_toArray, List.set_cons_zero, List.set_cons_succ]
    (repeat' (first | (refine gLex_val0 rfl (by kernel_rfl) (fun K hK => ?_); (go_simp; (try (simp only [↓IntWalk.iteOmega]; try go_simp)); (try simp (disch := omega) only [IntWalk.i64_in]); (try simp (disch := omega) only [IntWalk.u64_in]); first | (refine hK _ ?_; clear hK K) | (apply Exists.intro; refine ⟨fun x => ?_, hK _ ?_⟩; (first | (go_at_call 44; exact CA.out _)); clear hK K))) | (refine gLex_undef rfl rfl rfl (by kernel_rfl) (fun K hK => ?_); go_simp; refine hK _ ?_; clear hK K) | (refine gLex_ask rfl rfl rfl ?_; first | (apply gAsk_yes; kernel_rfl; intro K hK; (go_simp; (try (simp only [↓IntWalk.iteOmega]; try go_simp)); (try simp (disch := omega) only [IntWalk.i64_in]); (try simp (disch := omega) only [IntWalk.u64_in]); first | (refine hK _ ?_; clear hK K) | (apply Exists.intro; refine ⟨fun x => ?_, hK _ ?_⟩; (first | (go_at_call 44; exact CA.out _)); clear hK K))) | ((first | apply gAsk_no1 | apply gAsk_no2); kernel_rfl; intro K hK; simp [go_sem]; refine hK _ ?_; clear hK K))))
    refine gLex_endB (fun x9 => ?_)
    refine AtB.pop rfl (by simp) (fun z1 _ => ?_)
    refine AtB.base ?_
    simp only [Act.put, List.setIfInBounds_toArray, List.set_cons_zero, List.set_cons_succ]
    go_wp2_with fail
    go_ret
    exact ⟨rfl, hgw4.trans GG⟩
theorem stateStaleW (N : Int) (A : Option Addr) (n c : Nat) (E : List Edg) (hops settles : Int) (B : Option Addr) (m d : Nat) (l : List Int) (e v : Int) (w : World) (_ : I64 N) (_ : n ≤ c) (h : Rd w A 3 n (esCells E)) (_ : ∀ k, k < n → edgOk (ge E k)) (_ : I64 hops) (_ : I64 settles) (_ : m ≤ d) (hl : Rd w B 1 m (l.map (.int .i64))) (_ : ∀ z ∈ l, (Lit.int .i64 z).wf = true) (_ : I64 e) (_ : U64 v) :
    Calls Try.prog 8 #[.agg #[.int .i64 N, .slice A n c], .agg #[.int .i64 hops, .int .i64 settles, .slice B m d], .int .i64 e, .int .u64 v] w fun e w' => e = .returned (.bool true) ∧ Grows w w' := by
  cases hlb : light20B N n with
  | false => exact staleNo N A n c E hops settles B m d l e v w h hl (.inl hlb)
  | true =>
    obtain ⟨hN, hn⟩ := light20_of hlb
    by_cases hm : 60 < m
    · exact staleNo N A n c E hops settles B m d l e v w h hl (.inr (.inl hm))
    · by_cases hbad : coRB hops settles l = false ∨ rightF N E ≠ 0
      · exact staleNo N A n c E hops settles B m d l e v w h hl (.inr (.inr ⟨hlb, hn, by omega, hbad⟩))
      · have hco : coRB hops settles l = true := by
          cases hb : coRB hops settles l with
          | true => rfl
          | false => exact absurd (.inl hb) hbad
        have hok : rightF N E = 0 := Decidable.byContradiction fun e => hbad (.inr e)
        have hlim := hco
        unfold coRB at hlim
        simp only [Bool.and_eq_true, decide_eq_true_eq] at hlim
        have hr := right_in hok
        obtain ⟨k, rfl⟩ : ∃ k : Nat, N = (k : Int) := ⟨N.toNat, by have := hr.1; omega⟩
        obtain ⟨p, rfl⟩ : ∃ p : Nat, hops = (p : Int) := ⟨hops.toNat, by omega⟩
        obtain ⟨q, rfl⟩ : ∃ q : Nat, settles = (q : Int) := ⟨settles.toNat, by omega⟩
        exact staleGo k A n c E p q B m d l e v w h hl hlb (by have := hr.2.1; omega) hn (by omega) hok hco
end Go.Proofs.Yteodapefimlakaa

/- The law StateStale: for every input it returns true, and each argument reads as before. No condition. -/
namespace Go.Proofs.Yteodapefimlakaa.lawStateStale
open Go Go.ChangeShapes Go.WideShapes Go.ChangeAt Go.RowKit Go.Proofs.Yteodapefimlakaa

theorem own : ownKnob Try.prog.godebug = none := by kernel_rfl
theorem laidOut : laidOutB Try.prog = true := by kernel_rfl

set_option maxRecDepth 100000 in
theorem lifted (os : Os) (started : os.Started) (H : Type) (enc : TypeId × Value → H) :
    ReturnsInHanded {} Try.checked os 8 .any (Rows.stateStaleSpec.pre6 enc Try.prog Try.f8 Rows.stateStaleRow.domain false) (Rows.stateStaleSpec.post enc Try.prog Try.f8 false true false false) := by
  refine returnsInHanded_of_change (C := Try.checked) own started (by kernel_rfl) Try.func8
    (ChangeSpec.witness6 (enc := enc) (C := Try.checked) false ⟨#[], #[.agg #[.int .i64 0, .slice none 0 0], .agg #[.int .i64 0, .int .i64 0, .slice none 0 0], .int .i64 0, .int .u64 0], []⟩ 8 (by kernel_rfl) (by kernel_rfl) (by kernel_rfl) (by kernel_rfl)) ?_
  intro W base args ds gs before hval0 hW hcnd _
  have hval : ∀ (j : Nat) t v, Try.f8.params[j]? = some t → args[j]? = some v → Value.okWide Try.prog W .any base t v := hval0
  have hW' := hW
  obtain ⟨p, q, hA0, hV, rfl, hfz, hnd⟩ := hW
  have hA : DataW.TrodAll enc Try.prog W 0 (fun _ => true) true Try.f8.params.toList args.toList ds p := hA0
  rw [Try.params8] at hA hval
  obtain ⟨v0, vs0, d0, ds0, p0, q0, hargs, rfl, rfl, h0, r0⟩ := trodAll_cons hA
  obtain ⟨v1, vs1, d1, ds1, p1, q1, rfl, rfl, rfl, h1, r1⟩ := trodAll_cons r0
  obtain ⟨v2, vs2, d2, ds2, p2, q2, rfl, rfl, rfl, h2, r2⟩ := trodAll_cons r1
  obtain ⟨v3, vs3, d3, ds3, p3, q3, rfl, rfl, rfl, h3, r3⟩ := trodAll_cons r2
  obtain ⟨rfl, rfl, rfl⟩ := trodAll_nil r3
  obtain rfl : args = #[v0, v1, v2, v3] := by cases args; simp_all
  obtain ⟨rfl, rfl⟩ := trodVars_none hV
  have k0 := h0
  have lt0 : ∀ x ∈ p0, x.block < W.heap.size := by obtain ⟨m, hm⟩ := k0; exact DataW.trod_lt m _ _ _ hm
  obtain ⟨a0, A0, n0, c0, z0, rfl, x0, l0, w0, u0⟩ := open_graph Try.underlying24 Try.underlying3 Try.underlying22 Try.underlying96 Try.underlying3 Try.underlying3 Try.underlying43 ⟨rfl, rfl, rfl⟩ ⟨by kernel_rfl, by kernel_rfl, by kernel_rfl⟩ (by kernel_rfl) (by kernel_rfl) (by kernel_rfl) (hval 0 24 v0 rfl rfl) h0
  have k1 := h1
  have lt1 : ∀ x ∈ p1, x.block < W.heap.size := by obtain ⟨m, hm⟩ := k1; exact DataW.trod_lt m _ _ _ hm
  obtain ⟨a1, b1, A1, n1, c1, z1, rfl, x1, y1, l1, w1, u1⟩ := open_copt Try.underlying54 Try.underlying3 Try.underlying3 Try.underlying25 Try.underlying3 (by kernel_rfl) (by kernel_rfl) (by kernel_rfl) (hval 1 54 v1 rfl rfl) h1
  have k2 := h2
  have lt2 : ∀ x ∈ p2, x.block < W.heap.size := by obtain ⟨m, hm⟩ := k2; exact DataW.trod_lt m _ _ _ hm
  obtain ⟨a2, rfl, w2⟩ := open_i64 Try.underlying3 (hval 2 3 v2 rfl rfl) h2
  have k3 := h3
  have lt3 : ∀ x ∈ p3, x.block < W.heap.size := by obtain ⟨m, hm⟩ := k3; exact DataW.trod_lt m _ _ _ hm
  obtain ⟨a3, rfl, w3⟩ := open_u64 Try.underlying43 (hval 3 43 v3 rfl rfl) h3
  clear hA0 hval0
  refine (stateStaleW a0 A0 n0 c0 z0 a1 b1 A1 n1 c1 z1 a2 a3 W x0 l0 w0 u0 x1 y1 l1 w1 u1 w2 w3).mono fun e W' ⟨he, bel⟩ => ?_
  subst he
  exact ⟨_, rfl, _, _, _, [], _, [], hW', trodAll_mk1 (shut_bool Try.underlying4 _), (trodAll_cons_mk (Below.trod laidOut (by kernel_rfl) (of_decide_eq_true (by kernel_rfl)) k0 bel lt0) (trodAll_cons_mk (Below.trod laidOut (by kernel_rfl) (of_decide_eq_true (by kernel_rfl)) k1 bel lt1) (trodAll_cons_mk (Below.trod laidOut (by kernel_rfl) (of_decide_eq_true (by kernel_rfl)) k2 bel lt2) (trodAll_cons_mk (Below.trod laidOut (by kernel_rfl) (of_decide_eq_true (by kernel_rfl)) k3 bel lt3) trodAll_mk0)))), rfl, Below.frame bel _, fun h => by cases h⟩

theorem over : Rows.stateStaleRow.holds Try.pinned (OpenSpec.ofChange Rows.stateStaleSpec) :=
  OpenClaim.holds_of_wide 8 Try.f8 rfl rfl rfl rfl rfl rfl rfl ⟨rfl, rfl, rfl, rfl, rfl⟩ rfl rfl rfl rfl rfl (by kernel_rfl) Try.func8 (by kernel_rfl)
    (of_decide_eq_true (by kernel_rfl)) (by unfold Func.isWrapper; first | (rw [if_pos (by decide +kernel)]; kernel_rfl) | (rw [if_neg (by decide +kernel)]; exact ⟨rfl, rfl⟩))
    (fun os started H enc _ => lifted os started H enc)

end Go.Proofs.Yteodapefimlakaa.lawStateStale
namespace Go.Proofs.Yteodapefimlakaa
theorem stateStale_proved : Rows.StateStaleSaid := lawStateStale.over
#print axioms stateStale_proved
end Go.Proofs.Yteodapefimlakaa
