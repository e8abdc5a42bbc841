/- Contracts: what must come at any rate of a hierarchy; one that was copied. -/
import Derived.Test.YteodapefimlakaaQHierLooks02
import Derived.Test.YteodapefimlakaaQContractBuilds26
import Derived.Test.YteodapefimlakaaQHierLooks01
import Derived.Test.YteodapefimlakaaQContractBuilds09
import Derived.Test.YteodapefimlakaaQContractBuilds03
import Derived.Test.YteodapefimlakaaQContractBuilds00
import Derived.Test.YteodapefimlakaaQContractBuilds02
/- Contracts: what a hierarchy says. -/
namespace Go.Proofs.Yteodapefimlakaa
open Go Go.RowKit
attribute [local go_sem] Oper.semAt_some
theorem hiNodesNil (w : World) : Calls Try.prog 14 #[.pointer none] w fun e w' => e = .returned (.int .i64 0) ∧ w = w' := by
  go_enter Try.func14, Try.ntmps14
  go_wp2_with fail
  go_ret
  exact ⟨rfl, rfl⟩
theorem hiSizeNil (w : World) : Calls Try.prog 15 #[.pointer none] w fun e w' => e = .returned (.int .i64 0) ∧ w = w' := by
  go_enter Try.func15, Try.ntmps15
  go_wp2_with fail
  go_ret
  exact ⟨rfl, rfl⟩
theorem hiNodes (b N : Nat) (E : List Edg) (r : List Nat) (S : List SI) (w : World) (h : HiAt w b N E r S) : Calls Try.prog 14 #[.pointer (some ⟨b, 0, none⟩)] w fun e w' => e = .returned (.int .i64 (N : Int)) ∧ w = w' := by
  obtain ⟨A, c, B, d, A2, c2, go, gi_, h1, _⟩ := h
  go_enter Try.func14, Try.ntmps14
  go_wp2_with fail
  go_ret
  exact ⟨rfl, rfl⟩
theorem hiSize (b N : Nat) (E : List Edg) (r : List Nat) (S : List SI) (w : World) (h : HiAt w b N E r S) : Calls Try.prog 15 #[.pointer (some ⟨b, 0, none⟩)] w fun e w' => e = .returned (.int .i64 (S.length : Int)) ∧ w = w' := by
  obtain ⟨A, c, B, d, A2, c2, go, gi_, h1, _⟩ := h
  generalize S.length = n2 at *
  go_enter Try.func15, Try.ntmps15
  go_wp2_with fail
  go_ret
  exact ⟨rfl, rfl⟩
set_option maxHeartbeats 1000000 in
theorem hiRankNil (v : Int) (w : World) : Calls Try.prog 21 #[.pointer none, .int .i64 v] w fun e w' => e = .returned (.int .i64 (-1)) ∧ Grows w w' := by
  have CN := hide (fun (W : World) => hiNodesNil W)
  by_cases hv : v < 0
  · skip
    go_enter Try.func21, Try.ntmps21
    go_wp2_with (go_at_call 14; refine (CN.out _).mono ?_; rintro e w' ⟨rfl, rfl⟩)
    go_ret
    exact ⟨rfl, GG⟩
  · have hv2 : 0 ≤ v := by omega
    clear hv
    go_enter Try.func21, Try.ntmps21
    go_wp2_with (go_at_call 14; refine (CN.out _).mono ?_; rintro e w' ⟨rfl, rfl⟩)
    all_goals first | (exfalso; omega) | (go_ret; exact ⟨rfl, GG⟩)
set_option maxHeartbeats 1000000 in
theorem hiShortcutNil (i : Int) (w : World) : Calls Try.prog 20 #[.pointer none, .int .i64 i] w fun e w' => e = .returned (.tuple #[.agg #[.int .i64 0, .int .i64 0, .int .u64 0, .int .i64 0, .int .i64 0, .int .i64 0], .bool false]) ∧ Grows w w' := by
  have CN := hide (fun (W : World) => hiSizeNil W)
  by_cases hv : i < 0
  · skip
    go_enter Try.func20, Try.ntmps20
    go_wp2_with (go_at_call 15; refine (CN.out _).mono ?_; rintro e w' ⟨rfl, rfl⟩)
    exact bodyPost_ret (v := .tuple #[.agg #[.int .i64 0, .int .i64 0, .int .u64 0, .int .i64 0, .int .i64 0, .int .i64 0], .bool false]) (by simp (maxDischargeDepth := 6) [results, Try.results20, go_sem]) rfl ⟨rfl, GG⟩
  · have hv2 : 0 ≤ i := by omega
    clear hv
    go_enter Try.func20, Try.ntmps20
    go_wp2_with (go_at_call 15; refine (CN.out _).mono ?_; rintro e w' ⟨rfl, rfl⟩)
    all_goals first | (exfalso; omega) | exact bodyPost_ret (v := .tuple #[.agg #[.int .i64 0, .int .i64 0, .int .u64 0, .int .i64 0, .int .i64 0, .int .i64 0], .bool false]) (by simp (maxDischargeDepth := 6) [results, Try.results20, go_sem]) rfl ⟨rfl, GG⟩
set_option maxHeartbeats 1000000 in
theorem hiGraphNil (w : World) : Calls Try.prog 17 #[.pointer none] w fun e w' => e = .returned (.agg #[.int .i64 0, .slice none 0 0]) ∧ Grows w w' := by
  go_enter Try.func17, Try.ntmps17
  go_wp2_with fail
  exact bodyPost_ret (v := .agg #[.int .i64 0, .slice none 0 0]) (by simp (maxDischargeDepth := 6) [results, Try.results17, go_sem]) rfl ⟨rfl, GG⟩
set_option maxHeartbeats 1000000 in
theorem hiHierarchyNil (w : World) : Calls Try.prog 19 #[.pointer none] w fun e w' => e = .returned (.agg #[.slice none 0 0, .slice none 0 0]) ∧ Grows w w' := by
  go_enter Try.func19, Try.ntmps19
  go_wp2_with fail
  exact bodyPost_ret (v := .agg #[.slice none 0 0, .slice none 0 0]) (by simp (maxDischargeDepth := 6) [results, Try.results19, go_sem]) rfl ⟨rfl, GG⟩
set_option maxHeartbeats 1000000 in
theorem hiRowNil (v : Int) (back : Bool) (w : World) : Calls Try.prog 54 #[.pointer none, .int .i64 v, .bool back] w fun e w' => e = .returned (.slice none 0 0) ∧ Grows w w' := by
  have CN := hide (fun (W : World) => hiNodesNil W)
  by_cases hv : v < 0
  · skip
    go_enter Try.func54, Try.ntmps54
    go_wp2_with (go_at_call 14; refine (CN.out _).mono ?_; rintro e w' ⟨rfl, rfl⟩)
    go_ret
    exact ⟨rfl, GG⟩
  · have hv2 : 0 ≤ v := by omega
    clear hv
    go_enter Try.func54, Try.ntmps54
    go_wp2_with (go_at_call 14; refine (CN.out _).mono ?_; rintro e w' ⟨rfl, rfl⟩)
    all_goals first | (exfalso; omega) | (go_ret; exact ⟨rfl, GG⟩)
set_option maxHeartbeats 1000000 in
theorem hiUpNil (v : Int) (back : Bool) (w : World) : Calls Try.prog 22 #[.pointer none, .int .i64 v, .bool back] w fun e w' => e = .returned (.slice none 0 0) ∧ Grows w w' := by
  have CR := hide (fun (W : World) => hiRowNil v back W)
  have CC := hide (fun (W : World) => Try.slices_Clone_int_nil 0 0 W)
  go_enter Try.func22, Try.ntmps22
  go_wp2_with (first
    | (go_at_call 54; refine (CR.out _).mono ?_; rintro e w' ⟨rfl, hg⟩; obtain ⟨x1, rfl⟩ := hg.later; clear hg)
    | (go_at_call 55; refine (CC.out _).mono ?_; rintro e w' ⟨rfl, rfl⟩))
  go_ret
  exact ⟨rfl, GG⟩
def GiveHR (w : World) (N : Nat) (r : List Nat) (S : List SI) (e : Ending) (w' : World) : Prop := ∃ B d A c, e = .returned (.agg #[.slice B N d, .slice A S.length c]) ∧ Rd w' B 1 N (nv r) ∧ Rd w' A 6 S.length (sis S) ∧ S.length ≤ c ∧ Grows w w'
set_option maxHeartbeats 2000000 in
theorem hiHierarchy (b N : Nat) (E : List Edg) (r : List Nat) (S : List SI) (w : World) (h : HiAt w b N E r S) (hN : N ≤ 1000000) (hS : S.length ≤ 1000000) : Calls Try.prog 19 #[.pointer (some ⟨b, 0, none⟩)] w (GiveHR w N r S) := by
  obtain ⟨A, c, B, d, A2, c2, go, gi_, h1, _, h3, h4, _⟩ := h
  have CC := hide (fun (W : World) (g : Grows w W) => hiClone B N d (nvI r) A2 S.length c2 S W (by rw [← nvI_vals]; exact h3.grows g) hN (h4.grows g) hS)
  unfold GiveHC at CC
  unfold GiveHR
  clear h3 h4
  generalize S.length = n2 at *
  go_enter Try.func19, Try.ntmps19
  go_wp2_with (go_at_call 53; refine (CC.out _ GG).mono ?_; rintro e w' ⟨B1, d1, A1, c1, rfl, ho1, ho2, hg⟩; obtain ⟨x1, rfl⟩ := hg.later; have HO1 := hide ho1; have HO2 := hide ho2; clear ho1 ho2 hg)
  have hz1 := x1.size
  refine bodyPost_ret (v := .agg #[.slice B1 N d1, .slice A1 n2 c1]) (by simp (maxDischargeDepth := 6) [results, Try.results19, go_sem, *]) rfl ⟨B1, d1, A1, c1, rfl, ?_, ?_, HO2.out.capH, GG⟩
  · have := (((HO1.out).low (q := ⟨w.heap.size, 0, none⟩) (by simp) (.slice B1 N d1)).low (q := ⟨w.heap.size, 1, none⟩) (by simp) (.slice A1 n2 c1)).rd
    rw [← nvI_vals] at this
    exact this
  · exact (((HO2.out).low (q := ⟨w.heap.size, 0, none⟩) (by simp) (.slice B1 N d1)).low (q := ⟨w.heap.size, 1, none⟩) (by simp) (.slice A1 n2 c1)).rd
def GiveGR (w : World) (N : Nat) (E : List Edg) (e : Ending) (w' : World) : Prop := ∃ A c, e = .returned (.agg #[.int .i64 (N : Int), .slice A E.length c]) ∧ Rd w' A 3 E.length (esCells E) ∧ Grows w w'
set_option maxHeartbeats 2000000 in
theorem hiGraph (b N : Nat) (E : List Edg) (r : List Nat) (S : List SI) (w : World) (h : HiAt w b N E r S) (hE : E.length ≤ 1000000) : Calls Try.prog 17 #[.pointer (some ⟨b, 0, none⟩)] w (GiveGR w N E) := by
  obtain ⟨A, c, B, d, A2, c2, go, gi_, h1, h2, _⟩ := h
  have CC := hide (fun (W : World) (g : Grows w W) => gClone (N : Int) A E.length c E W (h2.grows g) hE)
  unfold GiveOG at CC
  unfold GiveGR
  clear h2
  generalize E.length = n at *
  go_enter Try.func17, Try.ntmps17
  go_wp2_with (go_at_call 52; refine (CC.out _ GG).mono ?_; rintro e w' ⟨A1, c1, rfl, ho1, hg⟩; obtain ⟨x1, rfl⟩ := hg.later; have HO1 := hide ho1; clear ho1 hg)
  refine bodyPost_ret (v := .agg #[.int .i64 (N : Int), .slice A1 n c1]) (by simp (maxDischargeDepth := 6) [results, Try.results17, go_sem, *]) rfl ⟨A1, c1, rfl, ?_, GG⟩
  exact (((HO1.out).low (q := ⟨w.heap.size, 0, none⟩) (by simp) (.int .i64 (N : Int))).low (q := ⟨w.heap.size, 1, none⟩) (by simp) (.slice A1 n c1)).rd
set_option maxHeartbeats 2000000 in
theorem hiShortcut (b N : Nat) (E : List Edg) (r : List Nat) (S : List SI) (i : Nat) (w : World) (h : HiAt w b N E r S) (hi : i < S.length) : Calls Try.prog 20 #[.pointer (some ⟨b, 0, none⟩), .int .i64 (i : Int)] w fun e w' => e = .returned (.tuple #[siVal (gsi S i), .bool true]) ∧ Grows w w' := by
  have CN := hide (fun (W : World) (g : Grows w W) => hiSize b N E r S W (h.grow g))
  obtain ⟨A, c, B, d, A2, c2, go, gi_, h1, _, _, h4, _⟩ := h
  obtain ⟨bb, off, rfl, hcc⟩ := h4.siH (by omega)
  obtain ⟨c1, c2', c3, c4, c5, c6⟩ := hcc i hi
  unfold siVal
  clear hcc h4
  generalize S.length = n2 at *
  generalize (gsi S i).f = sf at *
  generalize (gsi S i).t = st at *
  generalize (gsi S i).w = sw at *
  generalize (gsi S i).e = se at *
  generalize (gsi S i).a = sa at *
  generalize (gsi S i).b = sb at *
  go_enter Try.func20, Try.ntmps20
  go_wp2_with (go_at_call 15; refine (CN.out _ GG).mono ?_; rintro e w' ⟨rfl, rfl⟩)
  all_goals first | (exfalso; omega) | exact bodyPost_ret (v := .tuple #[.agg #[.int .i64 sf, .int .i64 st, .int .u64 sw, .int .i64 se, .int .i64 sa, .int .i64 sb], .bool true]) (by simp (maxDischargeDepth := 6) [results, Try.results20, go_sem]) rfl ⟨rfl, GG⟩
end Go.Proofs.Yteodapefimlakaa

/- Contract: a hierarchy of a graph is built, and looked up. -/
namespace Go.Proofs.Yteodapefimlakaa
open Go Go.RowKit
attribute [local go_sem] Oper.semAt_some
def blt (N hops settles : Nat) (E : List Edg) (vs : List Nat) : List Sc := (Ctr.goAll hops settles vs (ctrG N E)).S
def GiveHB (w : World) (N hops settles : Nat) (E : List Edg) (rk : List Nat → Prop) (e : Ending) (w' : World) : Prop :=
  ∃ b r vs, e = .returned (.tuple #[.pointer (some ⟨b, 0, none⟩), .int .i64 0]) ∧ InvR N r vs ∧ rk r ∧ HiAt w' b N E r ((blt N hops settles E vs).map Sc.si) ∧ Grows w w'
set_option maxHeartbeats 2000000 in
theorem hiBuiltBad (N : Int) (A : Option Addr) (n c : Nat) (E : List Edg) (hops settles : Int) (B : Option Addr) (m d : Nat) (l : List Int) (w : World) (h : Rd w A 3 n (esCells E)) (hn : n ≤ 1000000) (hl : Rd w B 1 m (l.map (.int .i64))) (hm : m ≤ 1000000) (hbad : rightF N E ≠ 0 ∨ coRB hops settles l = false) :
    Calls Try.prog 26 #[.agg #[.int .i64 N, .slice A n c], .agg #[.int .i64 hops, .int .i64 settles, .slice B m d]] w fun e w' => e = .returned (.tuple #[.pointer none, .int .i64 1]) ∧ Grows w w' := by
  have CB := hide (fun (W : World) (g : Grows w W) => coBuildBad N A n c E hops settles B m d l W (h.grows g) hn (hl.grows g) hm hbad)
  clear h hl hbad
  go_enter Try.func26, Try.ntmps26
  go_wp2_with (go_at_call 25; refine (CB.out _ GG).mono ?_; rintro e w' ⟨rfl, hg⟩; obtain ⟨x1, rfl⟩ := hg.later; clear hg)
  exact bodyPost_ret (v := .tuple #[.pointer none, .int .i64 1]) (by simp (maxDischargeDepth := 6) [results, Try.results26, go_sem]) rfl ⟨rfl, GG⟩
set_option maxHeartbeats 2000000 in
theorem hiBuiltRange (N : Int) (A : Option Addr) (n c : Nat) (E : List Edg) (hops settles : Int) (B : Option Addr) (m d : Nat) (l : List Int) (w : World) (h : Rd w A 3 n (esCells E)) (hn : n ≤ 1000000) (hl : Rd w B 1 m (l.map (.int .i64))) (hm : m ≤ 1000000) (hok : rightF N E = 0) (hor : coRB hops settles l = true) (hm0 : 0 < m) (hmN : (m : Int) ≠ N) :
    Calls Try.prog 26 #[.agg #[.int .i64 N, .slice A n c], .agg #[.int .i64 hops, .int .i64 settles, .slice B m d]] w fun e w' => e = .returned (.tuple #[.pointer none, .int .i64 2]) ∧ Grows w w' := by
  have CB := hide (fun (W : World) (g : Grows w W) => coBuildRange N A n c E hops settles B m d l W (h.grows g) hn (hl.grows g) hm hok hor hm0 hmN)
  clear h hl hok hor hmN
  go_enter Try.func26, Try.ntmps26
  go_wp2_with (go_at_call 25; refine (CB.out _ GG).mono ?_; rintro e w' ⟨rfl, hg⟩; obtain ⟨x1, rfl⟩ := hg.later; clear hg)
  exact bodyPost_ret (v := .tuple #[.pointer none, .int .i64 2]) (by simp (maxDischargeDepth := 6) [results, Try.results26, go_sem]) rfl ⟨rfl, GG⟩
set_option maxHeartbeats 2000000 in
theorem hiBuilt (N : Nat) (A : Option Addr) (n c : Nat) (E : List Edg) (hops settles : Nat) (B : Option Addr) (m d : Nat) (l : List Int) (w : World) (h : Rd w A 3 n (esCells E)) (hok : rightF N E = 0) (hl : Rd w B 1 m (l.map (.int .i64))) (hor : coRB hops settles l = true) (hN : N ≤ 12) (hn : n ≤ 40) (hm : m = 0 ∨ m = N) :
    Calls Try.prog 26 #[.agg #[.int .i64 (N : Int), .slice A n c], .agg #[.int .i64 (hops : Int), .int .i64 (settles : Int), .slice B m d]] w (GiveHB w N hops settles E (fun r => 0 < m → nvI r = l)) := by
  have hel := h.elen
  have CB := hide (fun (W : World) (g : Grows w W) => coBuildAny N A n c E hops settles B m d l W (h.grows g) hok (hl.grows g) hor hN hn hm)
  have CN := hide (fun (r vs : List Nat) (gr cr : Nat) (As : Option Addr) (cs : Nat) (W : World) (g : Grows w W) (hi : InvR N r vs) (hrow : Rd W (some ⟨gr, 0, none⟩) 1 N (nv r)) (hrd : Rd W As 6 (blt N hops settles E vs).length (hss (blt N hops settles E vs))) (hcap : (blt N hops settles E vs).length ≤ cs) => by
    obtain ⟨b1, b2, b3⟩ := built_ok (hops := hops) (settles := settles) hok hN (by omega) hi
    have hlm : ((blt N hops settles E vs).map Sc.si).length = (blt N hops settles E vs).length := List.length_map ..
    have := hiNew N A c E (some ⟨gr, 0, none⟩) cr r As cs ((blt N hops settles E vs).map Sc.si) W (by rw [hel]; exact h.grows g) hok hrow (by rw [hlm, ← sis_of]; exact hrd) (by rw [hlm]; exact Nat.le_trans b3 (by omega)) (by rw [hlm]; exact hcap) b1
    rw [hlm, hel] at this
    exact this)
  unfold GiveH at CB
  unfold GiveHi at CN
  unfold GiveHB
  clear h hok hl hor hel
  have HBL : Hid (∀ vs, (Ctr.goAll hops settles vs (ctrG N E)).S = blt N hops settles E vs) := fun _ => rfl
  simp only [HBL.out] at CB
  go_enter Try.func26, Try.ntmps26
  go_upto_region 2 with (go_at_call 25; refine (CB.out _ GG).mono ?_; rintro e w' ⟨gr, cr, As, cs, r, vs, rfl, hI, hrk, hrow, hrd, hcap, hg⟩; obtain ⟨x1, rfl⟩ := hg.later; have HI := hide hI; have HRK := hide hrk; have HROW := hide hrow; have HRD := hide hrd; have HCAP := hide hcap; clear hI hrk hrow hrd hcap hg)
  have hgw : Grows w x1.now := GG
  have CN2 := hide (fun (W : World) (g : Grows x1.now W) => CN.out r vs gr cr As cs W (hgw.trans g) HI.out (HROW.out.rd.grows g) (HRD.out.grows g) HCAP.out)
  clear CN HROW HRD HCAP CB HBL
  generalize (blt N hops settles E vs).length = n2 at *
  go_wp2_with (go_at_call 12; refine (CN2.out _ GG).mono ?_; rintro e w' ⟨b, rfl, hh, hg⟩; obtain ⟨x2, rfl⟩ := hg.later; have HH := hide hh; clear hh hg)
  exact bodyPost_ret (v := .tuple #[.pointer (some ⟨b, 0, none⟩), .int .i64 0]) (by simp (maxDischargeDepth := 6) [results, Try.results26, go_sem]) rfl ⟨b, r, vs, rfl, HI.out, HRK.out, HH.out, GG⟩
end Go.Proofs.Yteodapefimlakaa

/- Contracts: the document's answer: where a hierarchy is not made of a graph; is it full? -/
namespace Go.Proofs.Yteodapefimlakaa
open Go Go.RowKit
attribute [local go_sem] Oper.semAt_some
theorem gsi_take {S : List SI} {k j : Nat} (h : j < k) : gsi (S.take k) j = gsi S j := by
  unfold gsi
  rw [List.getD_eq_getElem?_getD, List.getD_eq_getElem?_getD, List.getElem?_take_of_lt h]
theorem madeOne_take {E : List Edg} {r : List Int} {S : List SI} {k j : Nat} (h : j < k) : madeOne E r (S.take k) j = madeOne E r S j := by
  have e : twoSB r (S.take k) j = twoSB r S j := by
    unfold twoSB
    rw [gsi_take h]
    by_cases hc : (gsi S j).e = -1 ∧ 0 ≤ (gsi S j).a ∧ (gsi S j).a < j ∧ 0 ≤ (gsi S j).b ∧ (gsi S j).b < j ∧ (gsi S j).f ≠ (gsi S j).t
    · rw [gsi_take (show (gsi S j).a.toNat < k by omega), gsi_take (show (gsi S j).b.toNat < k by omega)]
    · rw [decide_eq_false hc, Bool.false_and, Bool.false_and]
  unfold madeOne
  rw [e, gsi_take h]
theorem sis_take (S : List SI) : ∀ k, sis (S.take k) = (sis S).take (k * 6) := by
  induction S with
  | nil => intro k; simp [sis]
  | cons s S ih =>
    intro k
    cases k with
    | zero => simp [sis]
    | succ k =>
      have e1 : sis (s :: S) = siCells s ++ sis S := rfl
      have e2 : sis ((s :: S).take (k + 1)) = siCells s ++ sis (S.take k) := rfl
      rw [e1, e2, ih k, List.take_append]
      have hl : (siCells s).length = 6 := rfl
      have h6 : (siCells s).take ((k + 1) * 6) = siCells s := List.take_of_length_le (by rw [hl]; omega)
      rw [hl, h6, show (k + 1) * 6 - 6 = k * 6 by omega]
theorem Rd.sis_take {w : World} {A : Option Addr} {n k : Nat} {S : List SI} (h : Rd w A 6 n (sis S)) (hk : k ≤ n) : Rd w A 6 k (sis (S.take k)) := by
  have hl := h.1
  rw [sis_len] at hl
  refine ⟨by rw [sis_len, List.length_take]; omega, fun h0 h1 => ?_⟩
  obtain ⟨b, off, e, hc⟩ := h.2 (by omega) h1
  refine ⟨b, off, e, fun j u hu => hc j u ?_⟩
  rw [Go.Proofs.Yteodapefimlakaa.sis_take] at hu
  rw [List.getElem?_take] at hu
  split at hu
  · exact hu
  · cases hu
theorem madeSB_take {N : Int} {E : List Edg} {r : List Int} {S : List SI} {k : Nat} (h2 : (r.length : Int) = N ∧ rkB r = true) (hk : k < S.length) (ha : ∀ j, j < k → madeOne E r S j = true) : madeSB N E r (S.take (k + 1)) = madeOne E r S k := by
  unfold madeSB
  rw [decide_eq_true h2.1, h2.2, Bool.true_and, Bool.true_and]
  have hl : (S.take (k + 1)).length = k + 1 := by rw [List.length_take]; omega
  rw [hl]
  cases hm : madeOne E r S k with
  | true =>
    refine decide_eq_true fun j hj => ?_
    rw [madeOne_take hj]
    by_cases e : j = k
    · rw [e]; exact hm
    · exact ha j (by omega)
  | false =>
    refine decide_eq_false fun h => ?_
    have := h k (by omega)
    rw [madeOne_take (by omega), hm] at this
    cases this
set_option maxRecDepth 20000 in
set_option maxHeartbeats 4000000 in
theorem r21Made (N : Int) (A : Option Addr) (n c : Nat) (E : List Edg) (B : Option Addr) (m d : Nat) (r : List Int) (A2 : Option Addr) (n2 c2 : Nat) (S : List SI) (w : World) (h : Rd w A 3 n (esCells E)) (hn : n ≤ 1000000) (hr : Rd w B 1 m (r.map (.int .i64))) (hm : m ≤ 1000000) (hS : Rd w A2 6 n2 (sis S)) (hn2 : n2 ≤ 1000000) (hcap : n2 ≤ c2) :
    Calls Try.prog 13 #[.agg #[.int .i64 N, .slice A n c], .agg #[.slice B m d, .slice A2 n2 c2]] w fun e w' => e = .returned (.tuple #[.int .i64 (hmR N E r S).1, .bool (hmR N E r S).2]) ∧ Grows w w' := by
  have hrl : r.length = m := by simpa using hr.len
  have hsl : S.length = n2 := by have := hS.1; rw [sis_len] at this; omega
  have C0 := hide (fun (W : World) (g : Grows w W) => r5Right N A n c E W (h.grows g) hn)
  have C1 := hide (fun (W : World) (g : Grows w W) => r18Right B m d r W (hr.grows g) hm)
  by_cases hok : rightF N E = 0
  · rw [hok] at C0
    by_cases hmn : (m : Int) = N
    · cases hrk : rkB r with
      | false =>
        rw [hrk] at C1
        rw [hmR_rank hok (fun e => by rw [hrk] at e; cases e.2)]
        subst hmn
        clear h hr hS hok hrk hrl hsl
        go_enter Try.func13, Try.ntmps13
        go_wp2_with (first
          | (go_at_call 29; refine (C0.out _ GG).mono ?_; rintro e w' ⟨rfl, hg⟩; obtain ⟨x1, rfl⟩ := hg.later; clear hg)
          | (go_at_call 40; refine (C1.out _ GG).mono ?_; rintro e w' ⟨rfl, hg⟩; obtain ⟨x2, rfl⟩ := hg.later; clear hg))
        exact bodyPost_ret (v := .tuple #[.int .i64 (-1), .bool false]) (by simp [results, Try.results13, go_sem]) rfl ⟨rfl, GG⟩
      | true =>
        rw [hrk] at C1
        have HRK := hide (And.intro (show (r.length : Int) = N by rw [hrl]; exact hmn) hrk)
        have HOK := hide hok
        have HSL := hide hsl
        have CM := hide (fun (k : Nat) (hk : k < n2) (hall : ∀ j, j < k → madeOne E r S j = true) (W : World) (g : Grows w W) => by
          have := r20Made N A n c E B m d r A2 (k + 1) c2 (S.take (k + 1)) W (h.grows g) hn hok (hr.grows g) hm ((hS.grows g).sis_take (by omega)) (by omega)
          rw [madeSB_take (N := N) HRK.out (by rw [HSL.out]; exact hk) hall] at this
          exact this)
        have HS := hide hS
        obtain ⟨RR, hRR⟩ : ∃ RR, RR = hmR N E r S := ⟨_, rfl⟩
        rw [← hRR]
        have HRR := hide hRR
        clear hRR
        subst hmn
        clear h hr hS hok hrk hrl hsl
        go_enter Try.func13, Try.ntmps13
        go_wp2_with (first
          | (go_at_call 29; refine (C0.out _ GG).mono ?_; rintro e w' ⟨rfl, hg⟩; obtain ⟨x1, rfl⟩ := hg.later; clear hg)
          | (go_at_call 40; refine (C1.out _ GG).mono ?_; rintro e w' ⟨rfl, hg⟩; obtain ⟨x2, rfl⟩ := hg.later; clear hg))
        clear C0 C1
        go_loopw [6] (fun i wr => ∃ k : Nat, k ≤ n2 ∧ i = .int .i64 (k : Int) ∧ (∃ y : Later x2.now, wr = y.now) ∧ Hid (∀ j, j < k → madeOne E r S j = true)) (fun i _ => n2 - (Go.RowKit.intOf i).toNat)
        case atStart => exact ⟨0, by omega, by go_num, ⟨⟨_, Grows.refl _⟩, rfl⟩, fun j h => by omega⟩
        case round =>
          obtain ⟨k, hk, rfl, ⟨y, rfl⟩, HA⟩ := hrel
          by_cases hlt : k < n2
          · obtain ⟨bb, off, rfl, hcc⟩ := HS.out.siH (by omega)
            have CM2 := hide (CM.out k hlt HA.out)
            have hkc : k + 1 ≤ c2 := by omega
            have hkI : ((k : Int) + 1).toNat = k + 1 := by omega
            clear hcc CM
            cases hmo : madeOne E r S k with
            | true =>
              rw [hmo] at CM2
              have HN : Hid (∀ j, j < k + 1 → madeOne E r S j = true) := fun j hj => by
                by_cases e : j = k
                · rw [e]; exact hmo
                · exact HA.out j (by omega)
              clear hmo
              go_wp2_with fail
              ((first | refine wp_region_gen (by kernel_rfl) (by kernel_rfl) ?_); (repeat' (first | (refine gLex_val0 rfl (by kernel_rfl) (fun K hK => ?_); (go_simp; (try (simp only [↓IntWalk.iteOmega]; try go_simp)); (try simp (disch := omega) only [IntWalk.i64_in]); (try simp (disch := omega) only [IntWalk.u64_in]); first | (refine hK _ ?_; clear hK K) | (apply Exists.intro; refine ⟨fun x => ?_, hK _ ?_⟩; (first | (go_at_call 31; exact CM2.out _ GG)); clear hK K))) | (refine gLex_undef rfl rfl rfl (by kernel_rfl) (fun K hK => ?_); go_simp; refine hK _ ?_; clear hK K) | (refine gLex_ask rfl rfl rfl ?_; first | (apply gAsk_yes; kernel_rfl; intro K hK; (go_simp; (try (simp only [↓IntWalk.iteOmega]; try go_simp)); (try simp (disch := omega) only [IntWalk.i64_in]); (try simp (disch := omega) only [IntWalk.u64_in]); first | (refine hK _ ?_; clear hK K) | (apply Exists.intro; refine ⟨fun x => ?_, hK _ ?_⟩; (first | (go_at_call 31; exact CM2.out _ GG)); clear hK K))) | ((first | apply gAsk_no1 | apply gAsk_no2); kernel_rfl; intro K hK; simp [go_sem]; refine hK _ ?_; clear hK K) | (apply gAsk_part; kernel_rfl; all_goals (intro h K hK; (try simp only [Bool.not_true] at h); (try simp only [Bool.not_false] at h); (try simp only [decide_eq_true_eq] at h); (try simp only [decide_eq_false_iff_not] at h); first | (exfalso; first | contradiction | omega) | (go_simp; (try (simp only [↓IntWalk.iteOmega]; try go_simp)); (try simp (disch := omega) only [IntWalk.i64_in]); (try simp (disch := omega) only [IntWalk.u64_in]); first | (refine hK _ ?_; clear hK K) | (apply Exists.intro; refine ⟨fun x => ?_, hK _ ?_⟩; (first | (go_at_call 31; exact CM2.out _ GG)); clear hK K))))))); all_goals ((apply gLex_end); intro x))
              go_wp2_with fail
              go_roundw
              case measure => simp [Go.RowKit.intOf]; omega
              case rel => exact ⟨k + 1, by omega, by go_num, ⟨⟨_, GG⟩, rfl⟩, HN⟩
            | false =>
              rw [hmo] at CM2
              have HB : Hid (RR = ((k : Int), false)) := hide (by rw [HRR.out]; exact hmR_at HOK.out HRK.out (by rw [HSL.out]; exact hlt) HA.out hmo)
              clear hmo
              go_wp2_with fail
              ((first | refine wp_region_gen (by kernel_rfl) (by kernel_rfl) ?_); (repeat' (first | (refine gLex_val0 rfl (by kernel_rfl) (fun K hK => ?_); (go_simp; (try (simp only [↓IntWalk.iteOmega]; try go_simp)); (try simp (disch := omega) only [IntWalk.i64_in]); (try simp (disch := omega) only [IntWalk.u64_in]); first | (refine hK _ ?_; clear hK K) | (apply Exists.intro; refine ⟨fun x => ?_, hK _ ?_⟩; (first | (go_at_call 31; exact CM2.out _ GG)); clear hK K))) | (refine gLex_undef rfl rfl rfl (by kernel_rfl) (fun K hK => ?_); go_simp; refine hK _ ?_; clear hK K) | (refine gLex_ask rfl rfl rfl ?_; first | (apply gAsk_yes; kernel_rfl; intro K hK; (go_simp; (try (simp only [↓IntWalk.iteOmega]; try go_simp)); (try simp (disch := omega) only [IntWalk.i64_in]); (try simp (disch := omega) only [IntWalk.u64_in]); first | (refine hK _ ?_; clear hK K) | (apply Exists.intro; refine ⟨fun x => ?_, hK _ ?_⟩; (first | (go_at_call 31; exact CM2.out _ GG)); clear hK K))) | ((first | apply gAsk_no1 | apply gAsk_no2); kernel_rfl; intro K hK; simp [go_sem]; refine hK _ ?_; clear hK K) | (apply gAsk_part; kernel_rfl; all_goals (intro h K hK; (try simp only [Bool.not_true] at h); (try simp only [Bool.not_false] at h); (try simp only [decide_eq_true_eq] at h); (try simp only [decide_eq_false_iff_not] at h); first | (exfalso; first | contradiction | omega) | (go_simp; (try (simp only [↓IntWalk.iteOmega]; try go_simp)); (try simp (disch := omega) only [IntWalk.i64_in]); (try simp (disch := omega) only [IntWalk.u64_in]); first | (refine hK _ ?_; clear hK K) | (apply Exists.intro; refine ⟨fun x => ?_, hK _ ?_⟩; (first | (go_at_call 31; exact CM2.out _ GG)); clear hK K))))))); all_goals ((apply gLex_end); intro x))
              go_wp2_with fail
              exact bodyPost_ret (v := .tuple #[.int .i64 (k : Int), .bool false]) (by simp [results, Try.results13, go_sem]) rfl ⟨by rw [HB.out], GG⟩
          · obtain rfl : k = n2 := by omega
            have HB : Hid (RR = (0, true)) := hide (by rw [HRR.out]; exact hmR_all HOK.out HRK.out (by rw [HSL.out]; exact HA.out))
            go_wp2_with fail
            exact bodyPost_ret (v := .tuple #[.int .i64 0, .bool true]) (by simp [results, Try.results13, go_sem]) rfl ⟨by rw [HB.out], GG⟩
    · rw [hmR_rank hok (fun e => hmn (by rw [← hrl]; exact e.1))]
      have hne : ((m : Int) != N) = true := by simpa using hmn
      clear h hr hS hok hmn hrl hsl
      go_enter Try.func13, Try.ntmps13
      go_wp2_with (go_at_call 29; refine (C0.out _ GG).mono ?_; rintro e w' ⟨rfl, hg⟩; obtain ⟨x1, rfl⟩ := hg.later; clear hg)
      exact bodyPost_ret (v := .tuple #[.int .i64 (-1), .bool false]) (by simp [results, Try.results13, go_sem]) rfl ⟨rfl, GG⟩
  · rw [hmR_graph hok]
    have hb : (rightF N E != 0) = true := by simpa using hok
    clear h hr hS hok hrl hsl
    generalize rightF N E = r0 at *
    go_enter Try.func13, Try.ntmps13
    go_wp2_with (go_at_call 29; refine (C0.out _ GG).mono ?_; rintro e w' ⟨rfl, hg⟩; obtain ⟨x1, rfl⟩ := hg.later; clear hg)
    exact bodyPost_ret (v := .tuple #[.int .i64 (-2), .bool false]) (by simp [results, Try.results13, go_sem]) rfl ⟨rfl, GG⟩
end Go.Proofs.Yteodapefimlakaa

/- Regions that draw their order: an operation whose value hangs on the world (guarded or not), and one that reads such a value. -/
namespace Go.Proofs.Yteodapefimlakaa
open Go Go.RowKit
section
variable {P : Program} {w0 : World} {ops : Array Oper} {Q : Act → Env → Prop} {a : Act} {G : Env} {o : Oper} {rest : List Oper}
theorem gLex_propW {t : Tmp} (hw : Region.wanted o (yielded ops a.tmps) = true) (hp : plainB ops o G = true) (hd : o.dst = some t) (hlt : t < a.tmps.size)
    (p : Pr) (hl : Lasts p) (hr : ∀ x : Later w0, runsTo P (fun u w' => Grows x.now w' ∧ p u w') ((execOp a.eval o).run P x.now))
    (h : gLex P ops w0 Q rest a (G.upd t p)) : gLex P ops w0 Q (o :: rest) a G := by
  obtain ⟨h1, h2, h3, h4⟩ := plain_spec hp
  refine ⟨.inr p, ⟨h1, h2, .inl ⟨hw, hl, ⟨t, hd, hlt⟩, fun w hw a' ha' => ?_⟩⟩, ?_⟩
  · rw [exec_same h4 h3 ha']
    exact hr ⟨w, hw⟩
  · rw [hd]
    exact h
def depB (ops : Array Oper) (o : Oper) (G : Env) (t0 : Tmp) : Bool :=
  ((o.looksAt ops).all fun t => t == t0 || (G t).isNone) && (o.looksAt ops).contains t0 && (match o.dst with | some d => (G d).isNone | none => true) && (match o.op with | .select .. => false | _ => true) &&
    (match o.guard with | some (g, _) => (match (ops[g]?).bind (·.dst) with | some t => t != t0 | none => true) | none => true)
theorem dep_spec {t0 : Tmp} (h : depB ops o G t0 = true) : guardFree ops o G ∧ dstFree o G ∧ (∀ t ∈ o.looksAt ops, t = t0 ∨ G t = none) ∧ t0 ∈ o.looksAt ops ∧ ∀ cs b, o.op ≠ .select cs b := by
  unfold depB at h
  simp only [Bool.and_eq_true, List.all_eq_true, Bool.or_eq_true, Option.isNone_iff_eq_none, beq_iff_eq, List.contains_iff_mem] at h
  obtain ⟨⟨⟨⟨h1, h2⟩, h3⟩, h4⟩, h5⟩ := h
  refine ⟨fun g b t e1 e2 => ?_, fun d e => ?_, h1, h2, fun cs b e => ?_⟩
  · rcases h1 t (mem_looks_guard e1 e2) with e | e
    · rw [e1] at h5
      simp only [e2] at h5
      subst e
      simp at h5
    · exact e
  · rw [e] at h3; simpa using h3
  · rw [e] at h4; simp at h4
theorem gLex_dep {t0 t : Tmp} {p0 : Pr} (hw : Region.wanted o (yielded ops a.tmps) = true) (hp : depB ops o G t0 = true) (h0 : G t0 = some p0) (ht0 : t0 < a.tmps.size) (hd : o.dst = some t) (hlt : t < a.tmps.size)
    (p : Pr) (hl : Lasts p) (hr : ∀ (x : Later w0) (v : Value), p0 v x.now → runsTo P (fun u w' => Grows x.now w' ∧ p u w') ((execOp (a.put (some t0) v).eval o).run P x.now))
    (h : gLex P ops w0 Q rest a (G.upd t p)) : gLex P ops w0 Q (o :: rest) a G := by
  obtain ⟨h1, h2, h3, h4, h5⟩ := dep_spec hp
  refine ⟨.inr p, ⟨h1, h2, .inl ⟨hw, hl, ⟨t, hd, hlt⟩, fun w hw a' ha' => ?_⟩⟩, ?_⟩
  · have hv := ha' t0 h4
    unfold relAt at hv
    rw [h0] at hv
    obtain ⟨v, hv, hpv⟩ := hv
    have e : execOp a'.eval o = execOp (a.put (some t0) v).eval o := by
      refine execOp_congr o h5 fun x hx => ?_
      cases x with
      | tmp t =>
        have ht : t ∈ o.looksAt ops := List.mem_append_left _ (List.mem_filterMap.2 ⟨.tmp t, by simpa using hx, rfl⟩)
        have h' : a'.tmps[t]? = (a.put (some t0) v).tmps[t]? := by
          by_cases e : t = t0
          · subst e
            rw [hv]
            simp [Act.put, ht0]
          · have h6 := ha' t ht
            unfold relAt at h6
            rw [(h3 t ht).resolve_left e] at h6
            rw [h6]
            simp [Act.put, Array.getElem?_setIfInBounds_ne (Ne.symm e)]
        simp only [Act.eval, Array.getD_eq_getD_getElem?, h']
      | _ => rfl
    rw [e]
    exact hr ⟨w, hw⟩ v hpv
  · rw [hd]
    exact h
end
def RowP (n : Nat) (xs : List Value) : Pr := fun u w => ∃ A c, u = .slice A n c ∧ Rd w A 1 n xs
theorem RowP.lasts (n : Nat) (xs : List Value) : Lasts (RowP n xs) := fun _ _ _ hg ⟨A, c, e, h⟩ => ⟨A, c, e, h.grows hg⟩
end Go.Proofs.Yteodapefimlakaa

/- Regions that draw their order: an operation that reads one value which hangs on the world, and leaves a value that is known; the end where such values are left. -/
namespace Go.Proofs.Yteodapefimlakaa
open Go Go.RowKit
section
variable {P : Program} {w0 : World} {ops : Array Oper} {Q : Act → Env → Prop} {a : Act} {G : Env} {o : Oper} {rest : List Oper}
theorem dep_exec {a' : Act} {t0 : Tmp} {v : Value} (h5 : ∀ cs b, o.op ≠ .select cs b) (ht0 : t0 < a.tmps.size) (hv : a'.tmps[t0]? = some v) (h : ∀ t ∈ o.looksAt ops, t = t0 ∨ a'.tmps[t]? = a.tmps[t]?) : execOp a'.eval o = execOp (a.put (some t0) v).eval o := by
  refine execOp_congr o h5 fun x hx => ?_
  cases x with
  | tmp t =>
    have ht : t ∈ o.looksAt ops := List.mem_append_left _ (List.mem_filterMap.2 ⟨.tmp t, by simpa using hx, rfl⟩)
    have h' : a'.tmps[t]? = (a.put (some t0) v).tmps[t]? := by
      by_cases e : t = t0
      · subst e
        rw [hv]
        simp [Act.put, ht0]
      · rw [(h t ht).resolve_left e]
        simp [Act.put, Array.getElem?_setIfInBounds_ne (Ne.symm e)]
    simp only [Act.eval, Array.getD_eq_getD_getElem?, h']
  | _ => rfl
theorem gLex_depV {t0 : Tmp} {p0 : Pr} (hw : Region.wanted o (yielded ops a.tmps) = true) (hp : depB ops o G t0 = true) (h0 : G t0 = some p0) (ht0 : t0 < a.tmps.size) (v : Value)
    (hr : ∀ (x : Later w0) (u : Value), p0 u x.now → runsTo P (fun u' w' => Grows x.now w' ∧ u' = v) ((execOp (a.put (some t0) u).eval o).run P x.now))
    (h : gLex P ops w0 Q rest (a.put o.dst v) G) : gLex P ops w0 Q (o :: rest) a G := by
  obtain ⟨h1, h2, h3, h4, h5⟩ := dep_spec hp
  refine ⟨.inl v, ⟨h1, h2, .inl ⟨hw, trivial, trivial, fun w hw a' ha' => ?_⟩⟩, ?_⟩
  · have hv := ha' t0 h4
    unfold relAt at hv
    rw [h0] at hv
    obtain ⟨u, hv, hpv⟩ := hv
    rw [dep_exec h5 ht0 hv (fun t ht => (h3 t ht).imp id (fun e => by
      have h6 := ha' t ht
      unfold relAt at h6
      rw [e] at h6
      exact h6))]
    exact hr ⟨w, hw⟩ u hpv
  · have : putG G o.dst (.inl v) = G := by cases o.dst <;> rfl
    rw [this]
    exact h
def AtA (Q : Exit → Act → World → Prop) (a : Act) (G : Env) (w' : World) : Prop := ∀ a', Conc G a a' w' → Q .normal a' w'
theorem AtA.pop {Q : Exit → Act → World → Prop} {w' : World} {t : Tmp} {p : Pr} (hG : G t = none) (ht : t < a.tmps.size) (h : ∀ v, p v w' → AtA Q (a.put (some t) v) G w') : AtA Q a (G.upd t p) w' := fun a' hc => by
  obtain ⟨v, hv⟩ := conc_upd hc ht
  rcases hv with ⟨hp, hc2⟩ | hne
  · exact h v hp a' hc2
  · exact absurd hG hne
theorem AtA.base {Q : Exit → Act → World → Prop} {w' : World} (h : Q .normal a w') : AtA Q a Env.no w' := fun a' hc => by rw [conc_no hc]; exact h
theorem gLex_endA {Q : Exit → Act → World → Prop} (h : ∀ x : Later w0, AtA Q a G x.now) : gLex P ops w0 (fun a G => ∀ w', Grows w0 w' → ∀ a', Conc G a a' w' → Q .normal a' w') [] a G := fun w' hw a' hc => h ⟨w', hw⟩ a' hc
end
end Go.Proofs.Yteodapefimlakaa

/- Regions that draw their order: an operation that reads two values which hang on the world, and leaves a value that is known. -/
namespace Go.Proofs.Yteodapefimlakaa
open Go Go.RowKit
section
variable {P : Program} {w0 : World} {ops : Array Oper} {Q : Act → Env → Prop} {a : Act} {G : Env} {o : Oper} {rest : List Oper}
def depB2 (ops : Array Oper) (o : Oper) (G : Env) (t1 t2 : Tmp) : Bool :=
  ((o.looksAt ops).all fun t => t == t1 || t == t2 || (G t).isNone) && (o.looksAt ops).contains t1 && (o.looksAt ops).contains t2 && (match o.dst with | some d => (G d).isNone | none => true) && (match o.op with | .select .. => false | _ => true) &&
    (match o.guard with | some (g, _) => (match (ops[g]?).bind (·.dst) with | some t => t != t1 && t != t2 | none => true) | none => true)
theorem dep_spec2 {t1 t2 : Tmp} (h : depB2 ops o G t1 t2 = true) : guardFree ops o G ∧ dstFree o G ∧ (∀ t ∈ o.looksAt ops, t = t1 ∨ t = t2 ∨ G t = none) ∧ t1 ∈ o.looksAt ops ∧ t2 ∈ o.looksAt ops ∧ ∀ cs b, o.op ≠ .select cs b := by
  unfold depB2 at h
  simp only [Bool.and_eq_true, List.all_eq_true, Bool.or_eq_true, Option.isNone_iff_eq_none, beq_iff_eq, List.contains_iff_mem] at h
  obtain ⟨⟨⟨⟨⟨h1, h2⟩, h2'⟩, h3⟩, h4⟩, h5⟩ := h
  refine ⟨fun g b t e1 e2 => ?_, fun d e => ?_, fun t ht => (by rcases h1 t ht with (e | e) | e; exact .inl e; exact .inr (.inl e); exact .inr (.inr e)), h2, h2', fun cs b e => ?_⟩
  · rcases h1 t (mem_looks_guard e1 e2) with (e | e) | e
    · rw [e1] at h5
      simp only [e2] at h5
      subst e
      simp at h5
    · rw [e1] at h5
      simp only [e2] at h5
      subst e
      simp at h5
    · exact e
  · rw [e] at h3; simpa using h3
  · rw [e] at h4; simp at h4
theorem dep_exec2 {a' : Act} {t1 t2 : Tmp} {v1 v2 : Value} (h5 : ∀ cs b, o.op ≠ .select cs b) (ht1 : t1 < a.tmps.size) (ht2 : t2 < a.tmps.size) (hne : t1 ≠ t2) (hv1 : a'.tmps[t1]? = some v1) (hv2 : a'.tmps[t2]? = some v2) (h : ∀ t ∈ o.looksAt ops, t = t1 ∨ t = t2 ∨ a'.tmps[t]? = a.tmps[t]?) :
    execOp a'.eval o = execOp ((a.put (some t1) v1).put (some t2) v2).eval o := by
  refine execOp_congr o h5 fun x hx => ?_
  cases x with
  | tmp t =>
    have ht : t ∈ o.looksAt ops := List.mem_append_left _ (List.mem_filterMap.2 ⟨.tmp t, by simpa using hx, rfl⟩)
    have h' : a'.tmps[t]? = ((a.put (some t1) v1).put (some t2) v2).tmps[t]? := by
      by_cases e2 : t = t2
      · subst e2
        rw [hv2]
        simp [Act.put, ht2]
      · by_cases e : t = t1
        · subst e
          rw [hv1]
          show some v1 = (((a.tmps.setIfInBounds t v1).setIfInBounds t2 v2))[t]?
          rw [Array.getElem?_setIfInBounds_ne (Ne.symm e2)]
          simp [ht1]
        · rw [((h t ht).resolve_left e).resolve_left e2]
          simp [Act.put, Array.getElem?_setIfInBounds_ne (Ne.symm e), Array.getElem?_setIfInBounds_ne (Ne.symm e2)]
    simp only [Act.eval, Array.getD_eq_getD_getElem?, h']
  | _ => rfl
theorem gLex_depV2 {t1 t2 : Tmp} {p1 p2 : Pr} (hw : Region.wanted o (yielded ops a.tmps) = true) (hp : depB2 ops o G t1 t2 = true) (h1 : G t1 = some p1) (h2 : G t2 = some p2) (ht1 : t1 < a.tmps.size) (ht2 : t2 < a.tmps.size) (hne : t1 ≠ t2) (v : Value)
    (hr : ∀ (x : Later w0) (u1 u2 : Value), p1 u1 x.now → p2 u2 x.now → runsTo P (fun u' w' => Grows x.now w' ∧ u' = v) ((execOp ((a.put (some t1) u1).put (some t2) u2).eval o).run P x.now))
    (h : gLex P ops w0 Q rest (a.put o.dst v) G) : gLex P ops w0 Q (o :: rest) a G := by
  obtain ⟨k1, k2, k3, k4, k4', k5⟩ := dep_spec2 hp
  refine ⟨.inl v, ⟨k1, k2, .inl ⟨hw, trivial, trivial, fun w hw a' ha' => ?_⟩⟩, ?_⟩
  · have hv1 := ha' t1 k4
    have hv2 := ha' t2 k4'
    unfold relAt at hv1 hv2
    rw [h1] at hv1
    rw [h2] at hv2
    obtain ⟨u1, hv1, hp1⟩ := hv1
    obtain ⟨u2, hv2, hp2⟩ := hv2
    rw [dep_exec2 k5 ht1 ht2 hne hv1 hv2 (fun t ht => (k3 t ht).imp id (fun e => e.imp id (fun e => by
      have h6 := ha' t ht
      unfold relAt at h6
      rw [e] at h6
      exact h6)))]
    exact hr ⟨w, hw⟩ u1 u2 hp1 hp2
  · have : putG G o.dst (.inl v) = G := by cases o.dst <;> rfl
    rw [this]
    exact h
theorem gLex_propG {t : Tmp} (hw : Region.wanted o (yielded ops a.tmps) = true) (hp : plainB ops o G = true) (hd : o.dst = some t) (hlt : t < a.tmps.size)
    (p : Pr) (hl : Lasts p) (hr : ∀ x : Later w0, runsTo P (fun u w' => Grows x.now w' ∧ p u w') ((execOp a.eval o).run P x.now))
    (h : gLex P ops w0 Q rest a (G.upd t p)) : gLex P ops w0 Q (o :: rest) a G := by
  obtain ⟨h1, h2, h3, h4⟩ := plain_spec hp
  refine ⟨.inr p, ⟨h1, h2, .inl ⟨hw, hl, ⟨t, hd, hlt⟩, fun w hw a' ha' => ?_⟩⟩, ?_⟩
  · rw [exec_same h4 h3 ha']
    exact hr ⟨w, hw⟩
  · rw [hd]
    exact h
def AtB (Q : Exit → Act → World → Prop) (a : Act) (G : Env) (w' : World) : Prop := ∀ a', Conc G a a' w' → Q .normal a' w'
theorem AtB.pop {Q : Exit → Act → World → Prop} {w' : World} {t : Tmp} {p : Pr} (hG : G t = none) (ht : t < a.tmps.size) (h : ∀ v, p v w' → AtB Q (a.put (some t) v) G w') : AtB Q a (G.upd t p) w' := fun a' hc => by
  obtain ⟨v, hv⟩ := conc_upd hc ht
  rcases hv with ⟨hp, hc2⟩ | hne
  · exact h v hp a' hc2
  · exact absurd hG hne
theorem AtB.base {Q : Exit → Act → World → Prop} {w' : World} (h : Q .normal a w') : AtB Q a Env.no w' := fun a' hc => by rw [conc_no hc]; exact h
theorem gLex_endB {Q : Exit → Act → World → Prop} (h : ∀ x : Later w0, AtB Q a G x.now) : gLex P ops w0 (fun a G => ∀ w', Grows w0 w' → ∀ a', Conc G a a' w' → Q .normal a' w') [] a G := fun w' hw a' hc => h ⟨w', hw⟩ a' hc
end
def BRow (n : Nat) (L : List Bool) : Pr := fun u w => ∃ g, u = .slice (some ⟨g, 0, none⟩) n n ∧ Arr w g 4 (L.map .bool)
theorem BRow.lasts (n : Nat) (L : List Bool) : Lasts (BRow n L) := fun _ _ _ hg ⟨g, e, h⟩ => ⟨g, e, h.grow hg⟩
end Go.Proofs.Yteodapefimlakaa

/- Contracts: what must come at any rate of a hierarchy; one that was copied. -/
namespace Go.Proofs.Yteodapefimlakaa
open Go Go.RowKit
attribute [local go_sem] Oper.semAt_some
def E21 : List Edg := [⟨0, 1, 3⟩]
theorem ok21 : rightF (2 : Nat) E21 = 0 := by decide
theorem blt21 {r vs : List Nat} (h : InvR 2 r vs) : (blt 2 1 1 E21 vs).map Sc.si = [⟨0, 1, 3, 0, -1, -1⟩] := by
  have hl := h.vl
  match vs, hl with
  | [a, b], _ =>
    have h0 := (h.at_ 0 (by omega)).1
    have h1 := (h.at_ 1 (by omega)).1
    have hn := h.nodup
    have e0 : gn [a, b] 0 = a := rfl
    have e1 : gn [a, b] 1 = b := rfl
    rw [e0] at h0
    rw [e1] at h1
    have hab : a ≠ b := by
      rw [List.nodup_cons] at hn
      intro e
      exact hn.1 (by rw [e]; simp)
    rcases (by omega : (a = 0 ∧ b = 1) ∨ (a = 1 ∧ b = 0)) with ⟨rfl, rfl⟩ | ⟨rfl, rfl⟩
    · rfl
    · rfl
set_option maxRecDepth 20000 in
set_option maxHeartbeats 4000000 in
theorem alive21 (w : World) : Calls Try.prog 11 #[] w fun e w' => e = .returned (.bool true) ∧ Grows w w' := by
  have CB := hide (fun (b1 : Nat) (W : World) (h1 : Rd W (some ⟨b1, 0, none⟩) 3 1 (esCells E21)) => hiBuilt 2 (some ⟨b1, 0, none⟩) 1 1 E21 1 1 none 0 0 [] W h1 ok21 ⟨rfl, fun h => absurd h (by omega)⟩ (by decide) (by omega) (by omega) (.inl rfl))
  unfold GiveHB at CB
  have CS := hide (fun (b : Nat) (r : List Nat) (W : World) (h : HiAt W b 2 E21 r [⟨0, 1, 3, 0, -1, -1⟩]) => hiShortcut b 2 E21 r [⟨0, 1, 3, 0, -1, -1⟩] 0 W h (by simp))
  have CZ := hide (fun (b : Nat) (r : List Nat) (W : World) (h : HiAt W b 2 E21 r [⟨0, 1, 3, 0, -1, -1⟩]) => hiSize b 2 E21 r [⟨0, 1, 3, 0, -1, -1⟩] W h)
  have e : siVal (gsi [⟨0, 1, 3, 0, -1, -1⟩] 0) = .agg #[.int .i64 0, .int .i64 1, .int .u64 3, .int .i64 0, .int .i64 (-1), .int .i64 (-1)] := rfl
  rw [e] at CS
  simp only [List.length_cons, List.length_nil, Nat.zero_add] at CZ
  clear e
  go_enter Try.func11, Try.ntmps11
  go_wp2_with fail
  have e1 : Rd (w.alloc (.cells #[.int .i64 0, .int .i64 1, .int .u64 3] 96)) (some ⟨w.heap.size, 0, none⟩) 3 1 (esCells E21) :=
    ((Arr.make w [.int .i64 0, .int .i64 1, .int .u64 3] 96).row (n := 1) (size := 3) rfl (by omega)).rd
  have hgw : Grows w (w.alloc (.cells #[.int .i64 0, .int .i64 1, .int .u64 3] 96)) := (Grows.refl _).new _
  generalize w.alloc (.cells #[.int .i64 0, .int .i64 1, .int .u64 3] 96) = W1 at *
  generalize w.heap.size = b1 at *
  obtain ⟨y1, rfl⟩ := hgw.later
  clear hgw
  go_at_call 26
  refine (CB.out b1 _ e1).mono ?_
  rintro e w' ⟨b, r, vs, rfl, hI, _, hh, hg⟩
  obtain ⟨y2, rfl⟩ := hg.later
  rw [blt21 hI] at hh
  have HH := hide hh
  clear hg hh hI e1 CB
  go_wp2_with (first
    | (go_at_call 20; refine (CS.out b r _ (HH.out.grow GG)).mono ?_; rintro e w' ⟨rfl, hg⟩; obtain ⟨y3, rfl⟩ := hg.later; clear hg)
    | (go_at_call 15; refine (CZ.out b r _ (HH.out.grow GG)).mono ?_; rintro e w' ⟨rfl, rfl⟩))
  go_ret
  exact ⟨rfl, GG⟩
def HcP (N : Nat) (r : List Nat) (S : List SI) : Pr := fun u w => ∃ B d A c, u = .agg #[.slice B N d, .slice A S.length c] ∧ Rd w B 1 N (nv r) ∧ Rd w A 6 S.length (sis S) ∧ S.length ≤ c
theorem HcP.lasts (N : Nat) (r : List Nat) (S : List SI) : Lasts (HcP N r S) := fun _ _ _ hg ⟨B, d, A, c, e, h1, h2, h3⟩ => ⟨B, d, A, c, e, h1.grows hg, h2.grows hg, h3⟩
theorem field_g0 (w : World) : (Instr.field 24 (.agg #[.int .i64 0, .slice none 0 0]) 0).run Try.prog w = .ok (.int .i64 0) w := by kernel_rfl
theorem field_h0 (w : World) : (Instr.field 28 (.agg #[.slice none 0 0, .slice none 0 0]) 1).run Try.prog w = .ok (.slice none 0 0) w := by kernel_rfl
end Go.Proofs.Yteodapefimlakaa
