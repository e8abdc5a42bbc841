/- The law's walk: what is looked up in a hierarchy. -/
import Derived.Test.YteodapefimlakaaQHierLooks03
import Derived.Test.YteodapefimlakaaQHierLooks04
import Derived.Test.YteodapefimlakaaQHierLooks00
import Derived.Test.YteodapefimlakaaQContractBuilds25
/- The law's walk: what is looked up in a hierarchy. -/
namespace Go.Proofs.Yteodapefimlakaa
open Go Go.RowKit
attribute [local go_sem] Oper.semAt_some
def GcP (N n : Nat) (E : List Edg) : Pr := fun u w => ∃ A c, u = .agg #[.int .i64 (N : Int), .slice A n c] ∧ Rd w A 3 n (esCells E)
theorem GcP.lasts (N n : Nat) (E : List Edg) : Lasts (GcP N n E) := fun _ _ _ hg ⟨A, c, e, h⟩ => ⟨A, c, e, h.grows hg⟩
def UpP (L : List Nat) : Pr := fun u w => ∃ A c, u = .slice A L.length c ∧ Rd w A 1 L.length (nv L)
theorem UpP.lasts (L : List Nat) : Lasts (UpP L) := fun _ _ _ hg ⟨A, c, e, h⟩ => ⟨A, c, e, h.grows hg⟩
theorem made_more {N : Int} {E : List Edg} {r : List Nat} {S : List SI} (hok : rightF N E = 0) (h : madeSB N E (nvI r) S = true) : (r.length : Int) = N ∧ (∀ i, i < S.length → ((0 ≤ (gsi S i).f ∧ (gsi S i).f < N) ∧ 0 ≤ (gsi S i).t ∧ (gsi S i).t < N) ∧ (gsi S i).f ≠ (gsi S i).t) ∧ ∀ x y, x < r.length → y < r.length → gn r x = gn r y → x = y := by
  have hrl : (nvI r).length = r.length := List.length_map ..
  unfold madeSB at h
  simp only [Bool.and_eq_true, decide_eq_true_eq] at h
  obtain ⟨h1, h2, h3⟩ := h
  have he := made_ends hok h1 S.length h3
  refine ⟨by rw [← hrl]; exact h1, fun i hi => ⟨by have := he i hi; omega, fun e => ?_⟩, fun x y hx hy e => ?_⟩
  · have hm := h3 i hi
    unfold madeOne at hm
    rw [Bool.or_eq_true] at hm
    rcases hm with hm | hm
    · unfold edgeSB at hm
      simp only [Bool.and_eq_true, decide_eq_true_eq, beq_iff_eq] at hm
      obtain ⟨⟨q1, q2, _, _⟩, q3, q4, _⟩ := hm
      obtain ⟨_, _, _, r4, _⟩ := right_in hok
      have e1 := (r4.f (gsi S i).e.toNat (by omega)).2
      have e2 := (r4.t (gsi S i).e.toNat (by omega)).2
      exact right_ne hok (gsi S i).e.toNat (by omega) (by omega)
    · unfold twoSB at hm
      simp only [Bool.and_eq_true, decide_eq_true_eq] at hm
      exact hm.1.2.2.2.2.2 e
  · have hn := nvI_nodup (rkB_of h2).1
    have ex : gn r x = r[x] := by simp [gn, List.getD_eq_getElem?_getD, hx]
    have ey : gn r y = r[y] := by simp [gn, List.getD_eq_getElem?_getD, hy]
    rw [ex, ey] at e
    exact (List.getElem_inj hn).1 e
set_option maxRecDepth 40000 in
set_option maxHeartbeats 8000000 in
theorem hlNo (N : Int) (A : Option Addr) (n c : Nat) (E : List Edg) (B : Option Addr) (m d : Nat) (l : List Int) (A2 : Option Addr) (n2 c2 : Nat) (S : List SI) (v i : Int) (w : World) (h : Rd w A 3 n (esCells E)) (hl : Rd w B 1 m (l.map (.int .i64))) (hS : Rd w A2 6 n2 (sis S)) (hcap : n2 ≤ c2) (hno : light20B N n = false ∨ (decide (m ≤ 60) && decide (n2 ≤ 100)) = false ∨ (light20B N n = true ∧ (decide (m ≤ 60) && decide (n2 ≤ 100)) = true ∧ n ≤ 40 ∧ m ≤ 60 ∧ n2 ≤ 100 ∧ (hmR N E l S).2 = false)) :
    Calls Try.prog 3 #[.agg #[.int .i64 N, .slice A n c], .agg #[.slice B m d, .slice A2 n2 c2], .int .i64 v, .int .i64 i] w fun e w' => e = .returned (.bool true) ∧ Grows w w' := by
  have CL := hide (fun (W : World) => lLight20 N A n c W)
  have C2 := hide (fun (W : World) => lLight21 B m d A2 n2 c2 W)
  have CA := hide (fun (W : World) => alive21 W)
  cases hlb : light20B N n with
  | false =>
    rw [hlb] at CL
    clear h hl hS hlb hno
    go_enter Try.func3, Try.ntmps3
    go_wp2_with (first
      | (go_at_call 9; refine (CL.out _).mono ?_; rintro e w' ⟨rfl, hg⟩; obtain ⟨x1, rfl⟩ := hg.later; clear hg)
      | (go_at_call 11; refine (CA.out _).mono ?_; rintro e w' ⟨rfl, hg⟩; obtain ⟨x2, rfl⟩ := hg.later; clear hg))
    go_ret
    exact ⟨rfl, GG⟩
  | true =>
    rw [hlb] at CL
    cases hl2 : (decide (m ≤ 60) && decide (n2 ≤ 100)) with
    | false =>
      rw [hl2] at C2
      clear h hl hS hlb hno
      go_enter Try.func3, Try.ntmps3
      go_wp2_with (first
        | (go_at_call 9; refine (CL.out _).mono ?_; rintro e w' ⟨rfl, hg⟩; obtain ⟨x1, rfl⟩ := hg.later; clear hg)
        | (go_at_call 10; refine (C2.out _).mono ?_; rintro e w' ⟨rfl, hg⟩; obtain ⟨x3, rfl⟩ := hg.later; clear hg)
        | (go_at_call 11; refine (CA.out _).mono ?_; rintro e w' ⟨rfl, hg⟩; obtain ⟨x2, rfl⟩ := hg.later; clear hg))
      go_ret
      exact ⟨rfl, GG⟩
    | true =>
      rw [hl2] at C2
      obtain ⟨hn, hm, hn2, hf⟩ : n ≤ 40 ∧ m ≤ 60 ∧ n2 ≤ 100 ∧ (hmR N E l S).2 = false := by
        rcases hno with hno | hno | hno
        · rw [hlb] at hno; cases hno
        · rw [hl2] at hno; cases hno
        · exact hno.2.2
      have CN := hide (fun (W : World) (g : Grows w W) => hiNewNo N A n c E B m d l A2 n2 c2 S W (h.grows g) (by omega) (hl.grows g) (by omega) (hS.grows g) (by omega) hcap hf)
      have CM := hide (fun (W : World) (g : Grows w W) => r21Made N A n c E B m d l A2 n2 c2 S W (h.grows g) (by omega) (hl.grows g) (by omega) (hS.grows g) (by omega) hcap)
      rw [hf] at CM
      generalize (hmR N E l S).1 = a at *
      clear h hl hS hlb hno hl2 hf
      by_cases ha : a = -2
      · subst ha
        rw [if_pos rfl] at CN
        go_enter Try.func3, Try.ntmps3
        go_wp2_with (first
          | (go_at_call 9; refine (CL.out _).mono ?_; rintro e w' ⟨rfl, hg⟩; obtain ⟨x1, rfl⟩ := hg.later; clear hg)
          | (go_at_call 10; refine (C2.out _).mono ?_; rintro e w' ⟨rfl, hg⟩; obtain ⟨x3, rfl⟩ := hg.later; clear hg)
          | (go_at_call 12; refine (CN.out _ GG).mono ?_; rintro e w' ⟨rfl, hg⟩; obtain ⟨x4, rfl⟩ := hg.later; clear hg)
          | (go_at_call 13; refine (CM.out _ GG).mono ?_; rintro e w' ⟨rfl, hg⟩; obtain ⟨x5, rfl⟩ := hg.later; clear hg)
          | (go_at_call 11; refine (CA.out _).mono ?_; rintro e w' ⟨rfl, hg⟩; obtain ⟨x2, rfl⟩ := hg.later; clear hg))
        go_ret
        exact ⟨rfl, GG⟩
      · rw [if_neg ha] at CN
        have b1 : (a == (-2 : Int)) = false := by simpa using ha
        go_enter Try.func3, Try.ntmps3
        go_wp2_with (first
          | (go_at_call 9; refine (CL.out _).mono ?_; rintro e w' ⟨rfl, hg⟩; obtain ⟨x1, rfl⟩ := hg.later; clear hg)
          | (go_at_call 10; refine (C2.out _).mono ?_; rintro e w' ⟨rfl, hg⟩; obtain ⟨x3, rfl⟩ := hg.later; clear hg)
          | (go_at_call 12; refine (CN.out _ GG).mono ?_; rintro e w' ⟨rfl, hg⟩; obtain ⟨x4, rfl⟩ := hg.later; clear hg)
          | (go_at_call 13; refine (CM.out _ GG).mono ?_; rintro e w' ⟨rfl, hg⟩; obtain ⟨x5, rfl⟩ := hg.later; clear hg)
          | (go_at_call 11; refine (CA.out _).mono ?_; rintro e w' ⟨rfl, hg⟩; obtain ⟨x2, rfl⟩ := hg.later; clear hg))
        go_ret
        exact ⟨rfl, GG⟩
set_option maxRecDepth 40000 in
set_option maxHeartbeats 16000000 in
theorem hlMade (k : Nat) (A : Option Addr) (n c : Nat) (E : List Edg) (B : Option Addr) (d : Nat) (r : List Nat) (A2 : Option Addr) (n2 c2 : Nat) (S : List SI) (v i : Int) (w : World) (h : Rd w A 3 n (esCells E)) (hr : Rd w B 1 k (nv r)) (hS : Rd w A2 6 n2 (sis S)) (hcap : n2 ≤ c2) (hlb : light20B (k : Int) n = true) (hk : k ≤ 60) (hn : n ≤ 40) (hn2 : n2 ≤ 100) (hok : rightF (k : Int) E = 0) (hmade : madeSB (k : Int) E (nvI r) S = true) :
    Calls Try.prog 3 #[.agg #[.int .i64 (k : Int), .slice A n c], .agg #[.slice B k d, .slice A2 n2 c2], .int .i64 v, .int .i64 i] w fun e w' => e = .returned (.bool true) ∧ Grows w w' := by
  have hel : E.length = n := h.elen
  have hsl : S.length = n2 := by have := hS.1; rw [sis_len] at this; omega
  obtain ⟨_, hends, hinj⟩ := made_more hok hmade
  have hrl : r.length = k := by have := hr.len; simpa [nv] using this
  rw [hsl] at hends
  rw [hrl] at hinj
  have CL := hide (fun (W : World) => lLight20 (k : Int) A n c W)
  rw [hlb] at CL
  have C2 := hide (fun (W : World) => lLight21 B k d A2 n2 c2 W)
  rw [decide_eq_true hk, decide_eq_true hn2] at C2
  have CA := hide (fun (W : World) => alive21 W)
  have CN := hide (fun (W : World) (g : Grows w W) => by
    have := hiNew k A c E B d r A2 c2 S W (by rw [hel]; exact h.grows g) hok (hr.grows g) (by rw [hsl]; exact hS.grows g) (by omega) (by omega) hmade
    rw [hel, hsl] at this
    exact this)
  have CM := hide (fun (W : World) (g : Grows w W) => by
    have := r21Made (k : Int) A n c E B k d (nvI r) A2 n2 c2 S W (h.grows g) (by omega) (by rw [← nvI_vals]; exact hr.grows g) (by omega) (hS.grows g) (by omega) hcap
    rw [madeSB_hmR hok hmade] at this
    exact this)
  unfold GiveHi at CN
  have CG := hide (fun (b : Nat) (W : World) (h : HiAt W b k E r S) => by
    have := hiGraph b k E r S W h (by omega)
    unfold GiveGR at this
    rw [hel] at this
    exact this)
  have CH := hide (fun (b : Nat) (W : World) (h : HiAt W b k E r S) => by
    have := hiHierarchy b k E r S W h (by omega) (by omega)
    unfold GiveHR at this
    rw [hsl] at this
    exact this)
  have CS5 := hide (fun (A9 : Option Addr) (c9 : Nat) (W : World) (g : Grows w W) (h9 : Rd W A9 3 n (esCells E)) => r5Same (k : Int) A9 n c9 A c E W h9 (h.grows g) (by omega))
  have CS21 := hide (fun (B9 : Option Addr) (d9 : Nat) (A9 : Option Addr) (c9 : Nat) (W : World) (g : Grows w W) (h1 : Rd W B9 1 k (nv r)) (h2 : Rd W A9 6 n2 (sis S)) => r21Same k n2 B9 d9 A9 c9 B d A2 c2 (nvI r) S W (by rw [← nvI_vals]; exact h1) h2 (by rw [← nvI_vals]; exact hr.grows g) (hS.grows g) (by omega) (by omega))
  have CZ := hide (fun (b : Nat) (W : World) (h : HiAt W b k E r S) => by
    have := calls_same (hiSize b k E r S W h)
    rw [hsl] at this
    exact this)
  have HR := hide hr
  have HS := hide hS
  have HEND := hide hends
  have HINJ := hide hinj
  clear h hr hS hlb hmade hok hel hends hinj
  go_enter Try.func3, Try.ntmps3
  go_upto_region 10 with (first
    | (go_at_call 9; refine (CL.out _).mono ?_; rintro e w' ⟨rfl, hg⟩; obtain ⟨x1, rfl⟩ := hg.later; clear hg)
    | (go_at_call 10; refine (C2.out _).mono ?_; rintro e w' ⟨rfl, hg⟩; obtain ⟨x2, rfl⟩ := hg.later; clear hg)
    | (go_at_call 12; refine (CN.out _ GG).mono ?_; rintro e w' ⟨b, rfl, hh, hg⟩; obtain ⟨x3, rfl⟩ := hg.later; have HH := hide hh; clear hh hg)
    | (go_at_call 13; refine (CM.out _ GG).mono ?_; rintro e w' ⟨rfl, hg⟩; obtain ⟨x4, rfl⟩ := hg.later; clear hg))
  have hgw : Grows w x4.now := GG
  have a4 : Arr x4.now w.heap.size 24 [.int .i64 (k : Int), .slice A n c] := ((Arr.make w [.int .i64 (k : Int), .slice A n c] 24).grow ((Grows.refl _).new (.cells #[.slice B k d, .slice A2 n2 c2] 28))).grow (show Grows _ x4.now from GG)
  have a5 : Arr x4.now (w.heap.size + 1) 28 [.slice B k d, .slice A2 n2 c2] := by
    have h1 := Arr.make (w.alloc (.cells #[.int .i64 (k : Int), .slice A n c] 24)) [.slice B k d, .slice A2 n2 c2] 28
    have h2 := h1.grow (show Grows _ x4.now from GG)
    simpa using h2
  have HX : Hid (HiAt x4.now b k E r S) := hide (HH.out.grow GG)
  have HR2 := hide (HR.out.grows hgw)
  have HS2 := hide (HS.out.grows hgw)
  clear CL C2 CN CM HH HR HS
  generalize x4.now = W8 at *
  obtain ⟨y8, rfl⟩ := hgw.later
  generalize w.heap.size + 1 = b5 at *
  generalize w.heap.size = b4 at *
  have KN := hide (fun (W : World) (g : Grows y8.now W) => calls_same (hiNodes b k E r S W (HX.out.grow g)))
  have KZ := hide (fun (W : World) (g : Grows y8.now W) => CZ.out b W (HX.out.grow g))
  have KG := hide (fun (W : World) (g : Grows y8.now W) => CG.out b W (HX.out.grow g))
  have KH := hide (fun (W : World) (g : Grows y8.now W) => CH.out b W (HX.out.grow g))
  clear CZ CG CH
  refine wp_region_gen (by kernel_rfl) (by kernel_rfl) ?_
  (repeat' (first | (refine gLex_val0 rfl (by kernel_rfl) (fun K hK => ?_); (go_simp; (try (simp only [↓IntWalk.iteOmega]; try go_simp)); (try simp (disch := omega) only [IntWalk.i64_in]); (try simp (disch := omega) only [IntWalk.u64_in]); first | (refine hK _ ?_; clear hK K) | (apply Exists.intro; refine ⟨fun x => ?_, hK _ ?_⟩; (first | (go_at_call 14; exact KN.out _ GG) | (go_at_call 15; exact KZ.out _ GG)); clear hK K))) | (refine gLex_undef rfl rfl rfl (by kernel_rfl) (fun K hK => ?_); go_simp; refine hK _ ?_; clear hK K) | (refine gLex_ask rfl rfl rfl ?_; first | (apply gAsk_yes; kernel_rfl; intro K hK; (go_simp; (try (simp only [↓IntWalk.iteOmega]; try go_simp)); (try simp (disch := omega) only [IntWalk.i64_in]); (try simp (disch := omega) only [IntWalk.u64_in]); first | (refine hK _ ?_; clear hK K) | (apply Exists.intro; refine ⟨fun x => ?_, hK _ ?_⟩; (first | (go_at_call 14; exact KN.out _ GG) | (go_at_call 15; exact KZ.out _ GG)); clear hK K))) | ((first | apply gAsk_no1 | apply gAsk_no2); kernel_rfl; intro K hK; simp [go_sem]; refine hK _ ?_; clear hK K))))
  refine gLex_propG (by kernel_rfl) (by kernel_rfl) rfl (by simp) (GcP k n E) (GcP.lasts _ _ _) (fun y => by
    go_simp
    refine (KG.out _ GG).mono ?_
    rintro e w' ⟨A9, c9, rfl, h1, hg⟩
    exact ⟨_, rfl, hg, A9, c9, rfl, h1⟩) ?_
  (repeat' (first | (refine gLex_val0 rfl (by kernel_rfl) (fun K hK => ?_); go_simp; refine hK _ ?_; clear hK K) | (refine gLex_ask rfl rfl rfl ?_; apply gAsk_yes; kernel_rfl; intro K hK; go_simp; refine hK _ ?_; clear hK K)))
  refine gLex_depV (t0 := 71) (by kernel_rfl) (by kernel_rfl) rfl (by simp) (.bool true) (fun y u1 hu1 => by
    obtain ⟨A9, c9, rfl, h1⟩ := hu1
    have CF3 := hide (CS5.out A9 c9 _ (hgw.trans y.grows) h1)
    clear h1
    go_simp
    exact CF3.out) ?_
  simp only [Act.put, List.setIfInBounds_toArray, List.set_cons_zero, List.set_cons_succ]
  (repeat' (first | (refine gLex_val0 rfl (by kernel_rfl) (fun K hK => ?_); go_simp; refine hK _ ?_; clear hK K) | (refine gLex_ask rfl rfl rfl ?_; apply gAsk_yes; kernel_rfl; intro K hK; go_simp; refine hK _ ?_; clear hK K)))
  refine gLex_propG (by kernel_rfl) (by kernel_rfl) rfl (by simp) (HcP k r S) (HcP.lasts _ _ _) (fun y => by
    go_simp
    refine (KH.out _ GG).mono ?_
    rintro e w' ⟨B9, d9, A9, c9, rfl, h1, h2, h3, hg⟩
    exact ⟨_, rfl, hg, B9, d9, A9, c9, by rw [hsl], h1, by rw [hsl]; exact h2, by rw [hsl]; exact h3⟩) ?_
  (repeat' (first | (refine gLex_val0 rfl (by kernel_rfl) (fun K hK => ?_); go_simp; refine hK _ ?_; clear hK K) | (refine gLex_ask rfl rfl rfl ?_; apply gAsk_yes; kernel_rfl; intro K hK; go_simp; refine hK _ ?_; clear hK K)))
  refine gLex_depV (t0 := 78) (by kernel_rfl) (by kernel_rfl) rfl (by simp) (.bool true) (fun y u1 hu1 => by
    obtain ⟨B9, d9, A9, c9, rfl, h1, h2, h3⟩ := hu1
    rw [hsl] at h2
    have CF3 := hide (CS21.out B9 d9 A9 c9 _ (hgw.trans y.grows) h1 h2)
    clear h1 h2
    rw [hsl]
    go_simp
    exact CF3.out) ?_
  simp only [Act.put, List.setIfInBounds_toArray, List.set_cons_zero, List.set_cons_succ]
  (repeat' (first | (refine gLex_val0 rfl (by kernel_rfl) (fun K hK => ?_); go_simp; refine hK _ ?_; clear hK K) | (refine gLex_ask rfl rfl rfl ?_; apply gAsk_yes; kernel_rfl; intro K hK; go_simp; refine hK _ ?_; clear hK K)))
  refine gLex_endB (fun x9 => ?_)
  refine AtB.pop rfl (by simp) (fun z1 _ => ?_)
  refine AtB.pop rfl (by simp [Act.put]) (fun z2 _ => ?_)
  refine AtB.base ?_
  simp only [Act.put, List.setIfInBounds_toArray, List.set_cons_zero, List.set_cons_succ]
  by_cases hi : 0 ≤ i ∧ i < (n2 : Int)
  · obtain ⟨j, rfl⟩ : ∃ j : Nat, i = (j : Int) := ⟨i.toNat, by omega⟩
    have hj : j < n2 := by omega
    clear hi
    have KS := hide (fun (W : World) (g : Grows y8.now W) => hiShortcut b k E r S j W (HX.out.grow g) (by omega))
    have e1 : siVal (gsi S j) = .agg #[.int .i64 (gsi S j).f, .int .i64 (gsi S j).t, .int .u64 (gsi S j).w, .int .i64 (gsi S j).e, .int .i64 (gsi S j).a, .int .i64 (gsi S j).b] := rfl
    rw [e1] at KS
    clear e1
    obtain ⟨bb, off, rfl, hcc⟩ := HS2.out.siH (by omega)
    obtain ⟨c1, c2', c3, c4, c5, c6⟩ := hcc j hj
    clear hcc
    generalize (gsi S j).f = sf at *
    generalize (gsi S j).t = st at *
    generalize (gsi S j).w = sw at *
    generalize (gsi S j).e = se at *
    generalize (gsi S j).a = sa at *
    generalize (gsi S j).b = sb at *
    have he := fun W => sc_eq sf st sw se sa sb W
    go_upto_region 14 with (go_at_call 20; refine (KS.out _ GG).mono ?_; rintro e w' ⟨rfl, hg⟩; obtain ⟨x10, rfl⟩ := hg.later; clear hg)
    ((first | refine wp_region_gen (by kernel_rfl) (by kernel_rfl) ?_); (repeat' (first | (refine gLex_val0 rfl (by kernel_rfl) (fun K hK => ?_); (go_simp; (try (simp only [↓IntWalk.iteOmega]; try go_simp)); (try simp (disch := omega) only [IntWalk.i64_in]); (try simp (disch := omega) only [IntWalk.u64_in]); first | (refine hK _ ?_; clear hK K) | (apply Exists.intro; refine ⟨fun x => ?_, hK _ ?_⟩; (first | fail); clear hK K))) | (refine gLex_undef rfl rfl rfl (by kernel_rfl) (fun K hK => ?_); go_simp; refine hK _ ?_; clear hK K) | (refine gLex_ask rfl rfl rfl ?_; first | (apply gAsk_yes; kernel_rfl; intro K hK; (go_simp; (try (simp only [↓IntWalk.iteOmega]; try go_simp)); (try simp (disch := omega) only [IntWalk.i64_in]); (try simp (disch := omega) only [IntWalk.u64_in]); first | (refine hK _ ?_; clear hK K) | (apply Exists.intro; refine ⟨fun x => ?_, hK _ ?_⟩; (first | fail); clear hK K))) | ((first | apply gAsk_no1 | apply gAsk_no2); kernel_rfl; intro K hK; simp [go_sem]; refine hK _ ?_; clear hK K) | (apply gAsk_part; kernel_rfl; all_goals (intro h K hK; (try simp only [Bool.not_true] at h); (try simp only [Bool.not_false] at h); (try simp only [decide_eq_true_eq] at h); (try simp only [decide_eq_false_iff_not] at h); first | (exfalso; first | contradiction | omega) | (go_simp; (try (simp only [↓IntWalk.iteOmega]; try go_simp)); (try simp (disch := omega) only [IntWalk.i64_in]); (try simp (disch := omega) only [IntWalk.u64_in]); first | (refine hK _ ?_; clear hK K) | (apply Exists.intro; refine ⟨fun x => ?_, hK _ ?_⟩; (first | fail); clear hK K))))))); all_goals ((apply gLex_end); intro x))
    by_cases hv : 0 ≤ v ∧ v < (k : Int)
    · obtain ⟨u, rfl⟩ : ∃ u : Nat, v = (u : Int) := ⟨v.toNat, by omega⟩
      have huk : u < k := by omega
      clear hv
      have KR := hide (fun (W : World) (g : Grows y8.now W) => hiRank u (HX.out.grow g) huk)
      have KU := hide (fun (back : Bool) (W : World) (g : Grows y8.now W) => by
        have := hiUp u back (HX.out.grow g) huk (by omega)
        rw [hsl] at this
        exact this)
      have RU := hide (fun (back : Bool) (W : World) (g : Grows y8.now W) => r21Up k B d r _ n2 c2 S u back W (HR2.out.grows g) (HS2.out.grows g) (by omega) huk HEND.out HINJ.out)
      have LU := hide (fun (back : Bool) => show (upL r S back u n2).length ≤ 1000000 from Nat.le_trans (upL_len r S back u n2) (by omega))
      obtain ⟨bR, offR, rfl, hcR⟩ := (show Rd y8.now B 1 k ((nvI r).map (.int .i64)) by rw [← nvI_vals]; exact HR2.out).intsH (by omega)
      have kR := hcR u huk
      rw [nvI_gi _ _ (by rw [hrl]; exact huk)] at kR
      clear hcR HX HR2 HS2 HEND HINJ
      generalize gn r u = ru at *
      have KU1 := hide (KU.out false)
      have KU2 := hide (KU.out true)
      have RU1 := hide (RU.out false)
      have RU2 := hide (RU.out true)
      have LU1 := hide (LU.out false)
      have LU2 := hide (LU.out true)
      clear KU RU LU
      generalize upL r S false u n2 = L1 at *
      generalize upL r S true u n2 = L2 at *
      go_upto_region 18 with fail
      refine wp_region_gen (by kernel_rfl) (by kernel_rfl) ?_
      (repeat' (first | (refine gLex_val0 rfl (by kernel_rfl) (fun K hK => ?_); (go_simp; (try (simp only [↓IntWalk.iteOmega]; try go_simp)); (try simp (disch := omega) only [IntWalk.i64_in]); (try simp (disch := omega) only [IntWalk.u64_in]); first | (refine hK _ ?_; clear hK K) | (apply Exists.intro; refine ⟨fun x => ?_, hK _ ?_⟩; (first | (go_at_call 21; exact KR.out _ GG)); clear hK K))) | (refine gLex_undef rfl rfl rfl (by kernel_rfl) (fun K hK => ?_); go_simp; refine hK _ ?_; clear hK K) | (refine gLex_ask rfl rfl rfl ?_; first | (apply gAsk_yes; kernel_rfl; intro K hK; (go_simp; (try (simp only [↓IntWalk.iteOmega]; try go_simp)); (try simp (disch := omega) only [IntWalk.i64_in]); (try simp (disch := omega) only [IntWalk.u64_in]); first | (refine hK _ ?_; clear hK K) | (apply Exists.intro; refine ⟨fun x => ?_, hK _ ?_⟩; (first | (go_at_call 21; exact KR.out _ GG)); clear hK K))) | ((first | apply gAsk_no1 | apply gAsk_no2); kernel_rfl; intro K hK; simp [go_sem]; refine hK _ ?_; clear hK K))))
      refine gLex_propG (by kernel_rfl) (by kernel_rfl) rfl (by simp) (UpP L1) (UpP.lasts _) (fun y => by
        go_simp
        refine (KU1.out _ GG).mono ?_
        rintro e w' ⟨A9, c9, rfl, h1, hg⟩
        exact ⟨_, rfl, hg, A9, c9, rfl, h1⟩) ?_
      (repeat' (first | (refine gLex_val0 rfl (by kernel_rfl) (fun K hK => ?_); go_simp; refine hK _ ?_; clear hK K) | (refine gLex_ask rfl rfl rfl ?_; apply gAsk_yes; kernel_rfl; intro K hK; go_simp; refine hK _ ?_; clear hK K)))
      refine gLex_propG (by kernel_rfl) (by kernel_rfl) rfl (by simp) (UpP L1) (UpP.lasts _) (fun y => by
        go_simp
        refine (RU1.out _ GG).mono ?_
        rintro e w' ⟨A9, c9, rfl, h1, hg⟩
        exact ⟨_, rfl, hg, A9, c9, rfl, h1⟩) ?_
      refine gLex_depV2 (t1 := 163) (t2 := 166) (by kernel_rfl) (by kernel_rfl) rfl rfl (by simp) (by simp) (by decide) (.bool true) (fun y u1 u2 h1 h2 => by
        obtain ⟨C1, d1, rfl, k1⟩ := h1
        obtain ⟨C2, d2, rfl, k2⟩ := h2
        have CS := hide (r1Same C1 L1.length d1 (nvI L1) C2 L1.length d2 (nvI L1) _ (by rw [← nvI_vals]; exact k1) LU1.out (by rw [← nvI_vals]; exact k2) LU1.out)
        rw [decide_eq_true rfl] at CS
        clear k1 k2
        go_simp
        exact CS.out) ?_
      simp only [Act.put, List.setIfInBounds_toArray, List.set_cons_zero, List.set_cons_succ]
      (repeat' (first | (refine gLex_val0 rfl (by kernel_rfl) (fun K hK => ?_); go_simp; refine hK _ ?_; clear hK K) | (refine gLex_ask rfl rfl rfl ?_; apply gAsk_yes; kernel_rfl; intro K hK; go_simp; refine hK _ ?_; clear hK K)))
      refine gLex_propG (by kernel_rfl) (by kernel_rfl) rfl (by simp) (UpP L2) (UpP.lasts _) (fun y => by
        go_simp
        refine (KU2.out _ GG).mono ?_
        rintro e w' ⟨A9, c9, rfl, h1, hg⟩
        exact ⟨_, rfl, hg, A9, c9, rfl, h1⟩) ?_
      (repeat' (first | (refine gLex_val0 rfl (by kernel_rfl) (fun K hK => ?_); go_simp; refine hK _ ?_; clear hK K) | (refine gLex_ask rfl rfl rfl ?_; apply gAsk_yes; kernel_rfl; intro K hK; go_simp; refine hK _ ?_; clear hK K)))
      refine gLex_propG (by kernel_rfl) (by kernel_rfl) rfl (by simp) (UpP L2) (UpP.lasts _) (fun y => by
        go_simp
        refine (RU2.out _ GG).mono ?_
        rintro e w' ⟨A9, c9, rfl, h1, hg⟩
        exact ⟨_, rfl, hg, A9, c9, rfl, h1⟩) ?_
      refine gLex_depV2 (t1 := 172) (t2 := 175) (by kernel_rfl) (by kernel_rfl) rfl rfl (by simp) (by simp) (by decide) (.bool true) (fun y u1 u2 h1 h2 => by
        obtain ⟨C1, d1, rfl, k1⟩ := h1
        obtain ⟨C2, d2, rfl, k2⟩ := h2
        have CS := hide (r1Same C1 L2.length d1 (nvI L2) C2 L2.length d2 (nvI L2) _ (by rw [← nvI_vals]; exact k1) LU2.out (by rw [← nvI_vals]; exact k2) LU2.out)
        rw [decide_eq_true rfl] at CS
        clear k1 k2
        go_simp
        exact CS.out) ?_
      simp only [Act.put, List.setIfInBounds_toArray, List.set_cons_zero, List.set_cons_succ]
      (repeat' (first | (refine gLex_val0 rfl (by kernel_rfl) (fun K hK => ?_); (go_simp; (try (simp only [↓IntWalk.iteOmega]; try go_simp)); (try simp (disch := omega) only [IntWalk.i64_in]); (try simp (disch := omega) only [IntWalk.u64_in]); first | (refine hK _ ?_; clear hK K) | (apply Exists.intro; refine ⟨fun x => ?_, hK _ ?_⟩; (first | (go_at_call 11; exact CA.out _)); clear hK K))) | (refine gLex_undef rfl rfl rfl (by kernel_rfl) (fun K hK => ?_); go_simp; refine hK _ ?_; clear hK K) | (refine gLex_ask rfl rfl rfl ?_; first | (apply gAsk_yes; kernel_rfl; intro K hK; (go_simp; (try (simp only [↓IntWalk.iteOmega]; try go_simp)); (try simp (disch := omega) only [IntWalk.i64_in]); (try simp (disch := omega) only [IntWalk.u64_in]); first | (refine hK _ ?_; clear hK K) | (apply Exists.intro; refine ⟨fun x => ?_, hK _ ?_⟩; (first | (go_at_call 11; exact CA.out _)); clear hK K))) | ((first | apply gAsk_no1 | apply gAsk_no2); kernel_rfl; intro K hK; simp [go_sem]; refine hK _ ?_; clear hK K))))
      refine gLex_endB (fun x11 => ?_)
      refine AtB.pop rfl (by simp) (fun z1 _ => ?_)
      refine AtB.pop rfl (by simp [Act.put]) (fun z2 _ => ?_)
      refine AtB.pop rfl (by simp [Act.put]) (fun z3 _ => ?_)
      refine AtB.pop rfl (by simp [Act.put]) (fun z4 _ => ?_)
      refine AtB.base ?_
      simp only [Act.put, List.setIfInBounds_toArray, List.set_cons_zero, List.set_cons_succ]
      go_wp2_with fail
      go_ret
      exact ⟨rfl, hgw.trans GG⟩
    · have KR := hide (fun (W : World) (g : Grows y8.now W) => hiRankOut v (HX.out.grow g) (by omega))
      have KU := hide (fun (back : Bool) (W : World) (g : Grows y8.now W) => hiUpOut v back (HX.out.grow g) (by omega))
      clear HX HR2 HS2 HEND HINJ
      by_cases hv0 : v < 0
      · go_wp2_with (first
          | (go_at_call 21; refine (KR.out _ GG).mono ?_; rintro e w' ⟨rfl, hg⟩; obtain ⟨x5, rfl⟩ := hg.later; clear hg)
          | (go_at_call 22; refine (KU.out _ _ GG).mono ?_; rintro e w' ⟨rfl, hg⟩; obtain ⟨x6, rfl⟩ := hg.later; clear hg)
          | (go_at_call 11; refine (CA.out _).mono ?_; rintro e w' ⟨rfl, hg⟩; obtain ⟨x7, rfl⟩ := hg.later; clear hg))
        go_ret
        exact ⟨rfl, hgw.trans GG⟩
      · have hvk : (k : Int) ≤ v := by omega
        go_wp2_with (first
          | (go_at_call 21; refine (KR.out _ GG).mono ?_; rintro e w' ⟨rfl, hg⟩; obtain ⟨x5, rfl⟩ := hg.later; clear hg)
          | (go_at_call 22; refine (KU.out _ _ GG).mono ?_; rintro e w' ⟨rfl, hg⟩; obtain ⟨x6, rfl⟩ := hg.later; clear hg)
          | (go_at_call 11; refine (CA.out _).mono ?_; rintro e w' ⟨rfl, hg⟩; obtain ⟨x7, rfl⟩ := hg.later; clear hg))
        go_ret
        exact ⟨rfl, hgw.trans GG⟩
  · have KS := hide (fun (W : World) (g : Grows y8.now W) => hiShortcutOut i (HX.out.grow g) (by omega))
    have he := fun W => sc_eq 0 0 0 0 0 0 W
    by_cases hi0 : i < 0
    · go_upto_region 14 with (go_at_call 20; refine (KS.out _ GG).mono ?_; rintro e w' ⟨rfl, hg⟩; obtain ⟨x10, rfl⟩ := hg.later; clear hg)
      ((first | refine wp_region_gen (by kernel_rfl) (by kernel_rfl) ?_); (repeat' (first | (refine gLex_val0 rfl (by kernel_rfl) (fun K hK => ?_); (go_simp; (try (simp only [↓IntWalk.iteOmega]; try go_simp)); (try simp (disch := omega) only [IntWalk.i64_in]); (try simp (disch := omega) only [IntWalk.u64_in]); first | (refine hK _ ?_; clear hK K) | (apply Exists.intro; refine ⟨fun x => ?_, hK _ ?_⟩; (first | fail); clear hK K))) | (refine gLex_undef rfl rfl rfl (by kernel_rfl) (fun K hK => ?_); go_simp; refine hK _ ?_; clear hK K) | (refine gLex_ask rfl rfl rfl ?_; first | (apply gAsk_yes; kernel_rfl; intro K hK; (go_simp; (try (simp only [↓IntWalk.iteOmega]; try go_simp)); (try simp (disch := omega) only [IntWalk.i64_in]); (try simp (disch := omega) only [IntWalk.u64_in]); first | (refine hK _ ?_; clear hK K) | (apply Exists.intro; refine ⟨fun x => ?_, hK _ ?_⟩; (first | fail); clear hK K))) | ((first | apply gAsk_no1 | apply gAsk_no2); kernel_rfl; intro K hK; simp [go_sem]; refine hK _ ?_; clear hK K) | (apply gAsk_part; kernel_rfl; all_goals (intro h K hK; (try simp only [Bool.not_true] at h); (try simp only [Bool.not_false] at h); (try simp only [decide_eq_true_eq] at h); (try simp only [decide_eq_false_iff_not] at h); first | (exfalso; first | contradiction | omega) | (go_simp; (try (simp only [↓IntWalk.iteOmega]; try go_simp)); (try simp (disch := omega) only [IntWalk.i64_in]); (try simp (disch := omega) only [IntWalk.u64_in]); first | (refine hK _ ?_; clear hK K) | (apply Exists.intro; refine ⟨fun x => ?_, hK _ ?_⟩; (first | fail); clear hK K))))))); all_goals ((apply gLex_end); intro x))
      by_cases hv : 0 ≤ v ∧ v < (k : Int)
      · obtain ⟨u, rfl⟩ : ∃ u : Nat, v = (u : Int) := ⟨v.toNat, by omega⟩
        have huk : u < k := by omega
        clear hv
        have KR := hide (fun (W : World) (g : Grows y8.now W) => hiRank u (HX.out.grow g) huk)
        have KU := hide (fun (back : Bool) (W : World) (g : Grows y8.now W) => by
          have := hiUp u back (HX.out.grow g) huk (by omega)
          rw [hsl] at this
          exact this)
        have RU := hide (fun (back : Bool) (W : World) (g : Grows y8.now W) => r21Up k B d r _ n2 c2 S u back W (HR2.out.grows g) (HS2.out.grows g) (by omega) huk HEND.out HINJ.out)
        have LU := hide (fun (back : Bool) => show (upL r S back u n2).length ≤ 1000000 from Nat.le_trans (upL_len r S back u n2) (by omega))
        obtain ⟨bR, offR, rfl, hcR⟩ := (show Rd y8.now B 1 k ((nvI r).map (.int .i64)) by rw [← nvI_vals]; exact HR2.out).intsH (by omega)
        have kR := hcR u huk
        rw [nvI_gi _ _ (by rw [hrl]; exact huk)] at kR
        clear hcR HX HR2 HS2 HEND HINJ
        generalize gn r u = ru at *
        have KU1 := hide (KU.out false)
        have KU2 := hide (KU.out true)
        have RU1 := hide (RU.out false)
        have RU2 := hide (RU.out true)
        have LU1 := hide (LU.out false)
        have LU2 := hide (LU.out true)
        clear KU RU LU
        generalize upL r S false u n2 = L1 at *
        generalize upL r S true u n2 = L2 at *
        go_upto_region 18 with fail
        refine wp_region_gen (by kernel_rfl) (by kernel_rfl) ?_
        (repeat' (first | (refine gLex_val0 rfl (by kernel_rfl) (fun K hK => ?_); (go_simp; (try (simp only [↓IntWalk.iteOmega]; try go_simp)); (try simp (disch := omega) only [IntWalk.i64_in]); (try simp (disch := omega) only [IntWalk.u64_in]); first | (refine hK _ ?_; clear hK K) | (apply Exists.intro; refine ⟨fun x => ?_, hK _ ?_⟩; (first | (go_at_call 21; exact KR.out _ GG)); clear hK K))) | (refine gLex_undef rfl rfl rfl (by kernel_rfl) (fun K hK => ?_); go_simp; refine hK _ ?_; clear hK K) | (refine gLex_ask rfl rfl rfl ?_; first | (apply gAsk_yes; kernel_rfl; intro K hK; (go_simp; (try (simp only [↓IntWalk.iteOmega]; try go_simp)); (try simp (disch := omega) only [IntWalk.i64_in]); (try simp (disch := omega) only [IntWalk.u64_in]); first | (refine hK _ ?_; clear hK K) | (apply Exists.intro; refine ⟨fun x => ?_, hK _ ?_⟩; (first | (go_at_call 21; exact KR.out _ GG)); clear hK K))) | ((first | apply gAsk_no1 | apply gAsk_no2); kernel_rfl; intro K hK; simp [go_sem]; refine hK _ ?_; clear hK K))))
        refine gLex_propG (by kernel_rfl) (by kernel_rfl) rfl (by simp) (UpP L1) (UpP.lasts _) (fun y => by
          go_simp
          refine (KU1.out _ GG).mono ?_
          rintro e w' ⟨A9, c9, rfl, h1, hg⟩
          exact ⟨_, rfl, hg, A9, c9, rfl, h1⟩) ?_
        (repeat' (first | (refine gLex_val0 rfl (by kernel_rfl) (fun K hK => ?_); go_simp; refine hK _ ?_; clear hK K) | (refine gLex_ask rfl rfl rfl ?_; apply gAsk_yes; kernel_rfl; intro K hK; go_simp; refine hK _ ?_; clear hK K)))
        refine gLex_propG (by kernel_rfl) (by kernel_rfl) rfl (by simp) (UpP L1) (UpP.lasts _) (fun y => by
          go_simp
          refine (RU1.out _ GG).mono ?_
          rintro e w' ⟨A9, c9, rfl, h1, hg⟩
          exact ⟨_, rfl, hg, A9, c9, rfl, h1⟩) ?_
        refine gLex_depV2 (t1 := 163) (t2 := 166) (by kernel_rfl) (by kernel_rfl) rfl rfl (by simp) (by simp) (by decide) (.bool true) (fun y u1 u2 h1 h2 => by
          obtain ⟨C1, d1, rfl, k1⟩ := h1
          obtain ⟨C2, d2, rfl, k2⟩ := h2
          have CS := hide (r1Same C1 L1.length d1 (nvI L1) C2 L1.length d2 (nvI L1) _ (by rw [← nvI_vals]; exact k1) LU1.out (by rw [← nvI_vals]; exact k2) LU1.out)
          rw [decide_eq_true rfl] at CS
          clear k1 k2
          go_simp
          exact CS.out) ?_
        simp only [Act.put, List.setIfInBounds_toArray, List.set_cons_zero, List.set_cons_succ]
        (repeat' (first | (refine gLex_val0 rfl (by kernel_rfl) (fun K hK => ?_); go_simp; refine hK _ ?_; clear hK K) | (refine gLex_ask rfl rfl rfl ?_; apply gAsk_yes; kernel_rfl; intro K hK; go_simp; refine hK _ ?_; clear hK K)))
        refine gLex_propG (by kernel_rfl) (by kernel_rfl) rfl (by simp) (UpP L2) (UpP.lasts _) (fun y => by
          go_simp
          refine (KU2.out _ GG).mono ?_
          rintro e w' ⟨A9, c9, rfl, h1, hg⟩
          exact ⟨_, rfl, hg, A9, c9, rfl, h1⟩) ?_
        (repeat' (first | (refine gLex_val0 rfl (by kernel_rfl) (fun K hK => ?_); go_simp; refine hK _ ?_; clear hK K) | (refine gLex_ask rfl rfl rfl ?_; apply gAsk_yes; kernel_rfl; intro K hK; go_simp; refine hK _ ?_; clear hK K)))
        refine gLex_propG (by kernel_rfl) (by kernel_rfl) rfl (by simp) (UpP L2) (UpP.lasts _) (fun y => by
          go_simp
          refine (RU2.out _ GG).mono ?_
          rintro e w' ⟨A9, c9, rfl, h1, hg⟩
          exact ⟨_, rfl, hg, A9, c9, rfl, h1⟩) ?_
        refine gLex_depV2 (t1 := 172) (t2 := 175) (by kernel_rfl) (by kernel_rfl) rfl rfl (by simp) (by simp) (by decide) (.bool true) (fun y u1 u2 h1 h2 => by
          obtain ⟨C1, d1, rfl, k1⟩ := h1
          obtain ⟨C2, d2, rfl, k2⟩ := h2
          have CS := hide (r1Same C1 L2.length d1 (nvI L2) C2 L2.length d2 (nvI L2) _ (by rw [← nvI_vals]; exact k1) LU2.out (by rw [← nvI_vals]; exact k2) LU2.out)
          rw [decide_eq_true rfl] at CS
          clear k1 k2
          go_simp
          exact CS.out) ?_
        simp only [Act.put, List.setIfInBounds_toArray, List.set_cons_zero, List.set_cons_succ]
        (repeat' (first | (refine gLex_val0 rfl (by kernel_rfl) (fun K hK => ?_); (go_simp; (try (simp only [↓IntWalk.iteOmega]; try go_simp)); (try simp (disch := omega) only [IntWalk.i64_in]); (try simp (disch := omega) only [IntWalk.u64_in]); first | (refine hK _ ?_; clear hK K) | (apply Exists.intro; refine ⟨fun x => ?_, hK _ ?_⟩; (first | (go_at_call 11; exact CA.out _)); clear hK K))) | (refine gLex_undef rfl rfl rfl (by kernel_rfl) (fun K hK => ?_); go_simp; refine hK _ ?_; clear hK K) | (refine gLex_ask rfl rfl rfl ?_; first | (apply gAsk_yes; kernel_rfl; intro K hK; (go_simp; (try (simp only [↓IntWalk.iteOmega]; try go_simp)); (try simp (disch := omega) only [IntWalk.i64_in]); (try simp (disch := omega) only [IntWalk.u64_in]); first | (refine hK _ ?_; clear hK K) | (apply Exists.intro; refine ⟨fun x => ?_, hK _ ?_⟩; (first | (go_at_call 11; exact CA.out _)); clear hK K))) | ((first | apply gAsk_no1 | apply gAsk_no2); kernel_rfl; intro K hK; simp [go_sem]; refine hK _ ?_; clear hK K))))
        refine gLex_endB (fun x11 => ?_)
        refine AtB.pop rfl (by simp) (fun z1 _ => ?_)
        refine AtB.pop rfl (by simp [Act.put]) (fun z2 _ => ?_)
        refine AtB.pop rfl (by simp [Act.put]) (fun z3 _ => ?_)
        refine AtB.pop rfl (by simp [Act.put]) (fun z4 _ => ?_)
        refine AtB.base ?_
        simp only [Act.put, List.setIfInBounds_toArray, List.set_cons_zero, List.set_cons_succ]
        go_wp2_with fail
        go_ret
        exact ⟨rfl, hgw.trans GG⟩
      · have KR := hide (fun (W : World) (g : Grows y8.now W) => hiRankOut v (HX.out.grow g) (by omega))
        have KU := hide (fun (back : Bool) (W : World) (g : Grows y8.now W) => hiUpOut v back (HX.out.grow g) (by omega))
        clear HX HR2 HS2 HEND HINJ
        by_cases hv0 : v < 0
        · go_wp2_with (first
            | (go_at_call 21; refine (KR.out _ GG).mono ?_; rintro e w' ⟨rfl, hg⟩; obtain ⟨x5, rfl⟩ := hg.later; clear hg)
            | (go_at_call 22; refine (KU.out _ _ GG).mono ?_; rintro e w' ⟨rfl, hg⟩; obtain ⟨x6, rfl⟩ := hg.later; clear hg)
            | (go_at_call 11; refine (CA.out _).mono ?_; rintro e w' ⟨rfl, hg⟩; obtain ⟨x7, rfl⟩ := hg.later; clear hg))
          go_ret
          exact ⟨rfl, hgw.trans GG⟩
        · have hvk : (k : Int) ≤ v := by omega
          go_wp2_with (first
            | (go_at_call 21; refine (KR.out _ GG).mono ?_; rintro e w' ⟨rfl, hg⟩; obtain ⟨x5, rfl⟩ := hg.later; clear hg)
            | (go_at_call 22; refine (KU.out _ _ GG).mono ?_; rintro e w' ⟨rfl, hg⟩; obtain ⟨x6, rfl⟩ := hg.later; clear hg)
            | (go_at_call 11; refine (CA.out _).mono ?_; rintro e w' ⟨rfl, hg⟩; obtain ⟨x7, rfl⟩ := hg.later; clear hg))
          go_ret
          exact ⟨rfl, hgw.trans GG⟩
    · have hik : (n2 : Int) ≤ i := by omega
      go_upto_region 14 with (go_at_call 20; refine (KS.out _ GG).mono ?_; rintro e w' ⟨rfl, hg⟩; obtain ⟨x10, rfl⟩ := hg.later; clear hg)
      ((first | refine wp_region_gen (by kernel_rfl) (by kernel_rfl) ?_); (repeat' (first | (refine gLex_val0 rfl (by kernel_rfl) (fun K hK => ?_); (go_simp; (try (simp only [↓IntWalk.iteOmega]; try go_simp)); (try simp (disch := omega) only [IntWalk.i64_in]); (try simp (disch := omega) only [IntWalk.u64_in]); first | (refine hK _ ?_; clear hK K) | (apply Exists.intro; refine ⟨fun x => ?_, hK _ ?_⟩; (first | fail); clear hK K))) | (refine gLex_undef rfl rfl rfl (by kernel_rfl) (fun K hK => ?_); go_simp; refine hK _ ?_; clear hK K) | (refine gLex_ask rfl rfl rfl ?_; first | (apply gAsk_yes; kernel_rfl; intro K hK; (go_simp; (try (simp only [↓IntWalk.iteOmega]; try go_simp)); (try simp (disch := omega) only [IntWalk.i64_in]); (try simp (disch := omega) only [IntWalk.u64_in]); first | (refine hK _ ?_; clear hK K) | (apply Exists.intro; refine ⟨fun x => ?_, hK _ ?_⟩; (first | fail); clear hK K))) | ((first | apply gAsk_no1 | apply gAsk_no2); kernel_rfl; intro K hK; simp [go_sem]; refine hK _ ?_; clear hK K) | (apply gAsk_part; kernel_rfl; all_goals (intro h K hK; (try simp only [Bool.not_true] at h); (try simp only [Bool.not_false] at h); (try simp only [decide_eq_true_eq] at h); (try simp only [decide_eq_false_iff_not] at h); first | (exfalso; first | contradiction | omega) | (go_simp; (try (simp only [↓IntWalk.iteOmega]; try go_simp)); (try simp (disch := omega) only [IntWalk.i64_in]); (try simp (disch := omega) only [IntWalk.u64_in]); first | (refine hK _ ?_; clear hK K) | (apply Exists.intro; refine ⟨fun x => ?_, hK _ ?_⟩; (first | fail); clear hK K))))))); all_goals ((apply gLex_end); intro x))
      by_cases hv : 0 ≤ v ∧ v < (k : Int)
      · obtain ⟨u, rfl⟩ : ∃ u : Nat, v = (u : Int) := ⟨v.toNat, by omega⟩
        have huk : u < k := by omega
        clear hv
        have KR := hide (fun (W : World) (g : Grows y8.now W) => hiRank u (HX.out.grow g) huk)
        have KU := hide (fun (back : Bool) (W : World) (g : Grows y8.now W) => by
          have := hiUp u back (HX.out.grow g) huk (by omega)
          rw [hsl] at this
          exact this)
        have RU := hide (fun (back : Bool) (W : World) (g : Grows y8.now W) => r21Up k B d r _ n2 c2 S u back W (HR2.out.grows g) (HS2.out.grows g) (by omega) huk HEND.out HINJ.out)
        have LU := hide (fun (back : Bool) => show (upL r S back u n2).length ≤ 1000000 from Nat.le_trans (upL_len r S back u n2) (by omega))
        obtain ⟨bR, offR, rfl, hcR⟩ := (show Rd y8.now B 1 k ((nvI r).map (.int .i64)) by rw [← nvI_vals]; exact HR2.out).intsH (by omega)
        have kR := hcR u huk
        rw [nvI_gi _ _ (by rw [hrl]; exact huk)] at kR
        clear hcR HX HR2 HS2 HEND HINJ
        generalize gn r u = ru at *
        have KU1 := hide (KU.out false)
        have KU2 := hide (KU.out true)
        have RU1 := hide (RU.out false)
        have RU2 := hide (RU.out true)
        have LU1 := hide (LU.out false)
        have LU2 := hide (LU.out true)
        clear KU RU LU
        generalize upL r S false u n2 = L1 at *
        generalize upL r S true u n2 = L2 at *
        go_upto_region 18 with fail
        refine wp_region_gen (by kernel_rfl) (by kernel_rfl) ?_
        (repeat' (first | (refine gLex_val0 rfl (by kernel_rfl) (fun K hK => ?_); (go_simp; (try (simp only [↓IntWalk.iteOmega]; try go_simp)); (try simp (disch := omega) only [IntWalk.i64_in]); (try simp (disch := omega) only [IntWalk.u64_in]); first | (refine hK _ ?_; clear hK K) | (apply Exists.intro; refine ⟨fun x => ?_, hK _ ?_⟩; (first | (go_at_call 21; exact KR.out _ GG)); clear hK K))) | (refine gLex_undef rfl rfl rfl (by kernel_rfl) (fun K hK => ?_); go_simp; refine hK _ ?_; clear hK K) | (refine gLex_ask rfl rfl rfl ?_; first | (apply gAsk_yes; kernel_rfl; intro K hK; (go_simp; (try (simp only [↓IntWalk.iteOmega]; try go_simp)); (try simp (disch := omega) only [IntWalk.i64_in]); (try simp (disch := omega) only [IntWalk.u64_in]); first | (refine hK _ ?_; clear hK K) | (apply Exists.intro; refine ⟨fun x => ?_, hK _ ?_⟩; (first | (go_at_call 21; exact KR.out _ GG)); clear hK K))) | ((first | apply gAsk_no1 | apply gAsk_no2); kernel_rfl; intro K hK; simp [go_sem]; refine hK _ ?_; clear hK K))))
        refine gLex_propG (by kernel_rfl) (by kernel_rfl) rfl (by simp) (UpP L1) (UpP.lasts _) (fun y => by
          go_simp
          refine (KU1.out _ GG).mono ?_
          rintro e w' ⟨A9, c9, rfl, h1, hg⟩
          exact ⟨_, rfl, hg, A9, c9, rfl, h1⟩) ?_
        (repeat' (first | (refine gLex_val0 rfl (by kernel_rfl) (fun K hK => ?_); go_simp; refine hK _ ?_; clear hK K) | (refine gLex_ask rfl rfl rfl ?_; apply gAsk_yes; kernel_rfl; intro K hK; go_simp; refine hK _ ?_; clear hK K)))
        refine gLex_propG (by kernel_rfl) (by kernel_rfl) rfl (by simp) (UpP L1) (UpP.lasts _) (fun y => by
          go_simp
          refine (RU1.out _ GG).mono ?_
          rintro e w' ⟨A9, c9, rfl, h1, hg⟩
          exact ⟨_, rfl, hg, A9, c9, rfl, h1⟩) ?_
        refine gLex_depV2 (t1 := 163) (t2 := 166) (by kernel_rfl) (by kernel_rfl) rfl rfl (by simp) (by simp) (by decide) (.bool true) (fun y u1 u2 h1 h2 => by
          obtain ⟨C1, d1, rfl, k1⟩ := h1
          obtain ⟨C2, d2, rfl, k2⟩ := h2
          have CS := hide (r1Same C1 L1.length d1 (nvI L1) C2 L1.length d2 (nvI L1) _ (by rw [← nvI_vals]; exact k1) LU1.out (by rw [← nvI_vals]; exact k2) LU1.out)
          rw [decide_eq_true rfl] at CS
          clear k1 k2
          go_simp
          exact CS.out) ?_
        simp only [Act.put, List.setIfInBounds_toArray, List.set_cons_zero, List.set_cons_succ]
        (repeat' (first | (refine gLex_val0 rfl (by kernel_rfl) (fun K hK => ?_); go_simp; refine hK _ ?_; clear hK K) | (refine gLex_ask rfl rfl rfl ?_; apply gAsk_yes; kernel_rfl; intro K hK; go_simp; refine hK _ ?_; clear hK K)))
        refine gLex_propG (by kernel_rfl) (by kernel_rfl) rfl (by simp) (UpP L2) (UpP.lasts _) (fun y => by
          go_simp
          refine (KU2.out _ GG).mono ?_
          rintro e w' ⟨A9, c9, rfl, h1, hg⟩
          exact ⟨_, rfl, hg, A9, c9, rfl, h1⟩) ?_
        (repeat' (first | (refine gLex_val0 rfl (by kernel_rfl) (fun K hK => ?_); go_simp; refine hK _ ?_; clear hK K) | (refine gLex_ask rfl rfl rfl ?_; apply gAsk_yes; kernel_rfl; intro K hK; go_simp; refine hK _ ?_; clear hK K)))
        refine gLex_propG (by kernel_rfl) (by kernel_rfl) rfl (by simp) (UpP L2) (UpP.lasts _) (fun y => by
          go_simp
          refine (RU2.out _ GG).mono ?_
          rintro e w' ⟨A9, c9, rfl, h1, hg⟩
          exact ⟨_, rfl, hg, A9, c9, rfl, h1⟩) ?_
        refine gLex_depV2 (t1 := 172) (t2 := 175) (by kernel_rfl) (by kernel_rfl) rfl rfl (by simp) (by simp) (by decide) (.bool true) (fun y u1 u2 h1 h2 => by
          obtain ⟨C1, d1, rfl, k1⟩ := h1
          obtain ⟨C2, d2, rfl, k2⟩ := h2
          have CS := hide (r1Same C1 L2.length d1 (nvI L2) C2 L2.length d2 (nvI L2) _ (by rw [← nvI_vals]; exact k1) LU2.out (by rw [← nvI_vals]; exact k2) LU2.out)
          rw [decide_eq_true rfl] at CS
          clear k1 k2
          go_simp
          exact CS.out) ?_
        simp only [Act.put, List.setIfInBounds_toArray, List.set_cons_zero, List.set_cons_succ]
        (repeat' (first | (refine gLex_val0 rfl (by kernel_rfl) (fun K hK => ?_); (go_simp; (try (simp only [↓IntWalk.iteOmega]; try go_simp)); (try simp (disch := omega) only [IntWalk.i64_in]); (try simp (disch := omega) only [IntWalk.u64_in]); first | (refine hK _ ?_; clear hK K) | (apply Exists.intro; refine ⟨fun x => ?_, hK _ ?_⟩; (first | (go_at_call 11; exact CA.out _)); clear hK K))) | (refine gLex_undef rfl rfl rfl (by kernel_rfl) (fun K hK => ?_); go_simp; refine hK _ ?_; clear hK K) | (refine gLex_ask rfl rfl rfl ?_; first | (apply gAsk_yes; kernel_rfl; intro K hK; (go_simp; (try (simp only [↓IntWalk.iteOmega]; try go_simp)); (try simp (disch := omega) only [IntWalk.i64_in]); (try simp (disch := omega) only [IntWalk.u64_in]); first | (refine hK _ ?_; clear hK K) | (apply Exists.intro; refine ⟨fun x => ?_, hK _ ?_⟩; (first | (go_at_call 11; exact CA.out _)); clear hK K))) | ((first | apply gAsk_no1 | apply gAsk_no2); kernel_rfl; intro K hK; simp [go_sem]; refine hK _ ?_; clear hK K))))
        refine gLex_endB (fun x11 => ?_)
        refine AtB.pop rfl (by simp) (fun z1 _ => ?_)
        refine AtB.pop rfl (by simp [Act.put]) (fun z2 _ => ?_)
        refine AtB.pop rfl (by simp [Act.put]) (fun z3 _ => ?_)
        refine AtB.pop rfl (by simp [Act.put]) (fun z4 _ => ?_)
        refine AtB.base ?_
        simp only [Act.put, List.setIfInBounds_toArray, List.set_cons_zero, List.set_cons_succ]
        go_wp2_with fail
        go_ret
        exact ⟨rfl, hgw.trans GG⟩
      · have KR := hide (fun (W : World) (g : Grows y8.now W) => hiRankOut v (HX.out.grow g) (by omega))
        have KU := hide (fun (back : Bool) (W : World) (g : Grows y8.now W) => hiUpOut v back (HX.out.grow g) (by omega))
        clear HX HR2 HS2 HEND HINJ
        by_cases hv0 : v < 0
        · go_wp2_with (first
            | (go_at_call 21; refine (KR.out _ GG).mono ?_; rintro e w' ⟨rfl, hg⟩; obtain ⟨x5, rfl⟩ := hg.later; clear hg)
            | (go_at_call 22; refine (KU.out _ _ GG).mono ?_; rintro e w' ⟨rfl, hg⟩; obtain ⟨x6, rfl⟩ := hg.later; clear hg)
            | (go_at_call 11; refine (CA.out _).mono ?_; rintro e w' ⟨rfl, hg⟩; obtain ⟨x7, rfl⟩ := hg.later; clear hg))
          go_ret
          exact ⟨rfl, hgw.trans GG⟩
        · have hvk : (k : Int) ≤ v := by omega
          go_wp2_with (first
            | (go_at_call 21; refine (KR.out _ GG).mono ?_; rintro e w' ⟨rfl, hg⟩; obtain ⟨x5, rfl⟩ := hg.later; clear hg)
            | (go_at_call 22; refine (KU.out _ _ GG).mono ?_; rintro e w' ⟨rfl, hg⟩; obtain ⟨x6, rfl⟩ := hg.later; clear hg)
            | (go_at_call 11; refine (CA.out _).mono ?_; rintro e w' ⟨rfl, hg⟩; obtain ⟨x7, rfl⟩ := hg.later; clear hg))
          go_ret
          exact ⟨rfl, hgw.trans GG⟩
end Go.Proofs.Yteodapefimlakaa
