/- A session's graph: one that is built. -/
import Derived.Test.YteodapefimlakaaQStateStale02
import Derived.Test.YteodapefimlakaaQContractBuilds26
import Derived.Test.YteodapefimlakaaQContractBuilds22
import Derived.Test.YteodapefimlakaaQStateStale01
/- Contracts: what a hierarchy says. -/
namespace Go.Proofs.Yteodapefimlakaa
open Go Go.RowKit
attribute [local go_sem] Oper.semAt_some
theorem hiNodesNil (w : World) : Calls Try.prog 14 #[.pointer none] w fun e w' => e = .returned (.int .i64 0) ∧ w = w' := by
  go_enter Try.func14, Try.ntmps14
  go_wp2_with fail
  go_ret
  exact ⟨rfl, rfl⟩
theorem hiSizeNil (w : World) : Calls Try.prog 15 #[.pointer none] w fun e w' => e = .returned (.int .i64 0) ∧ w = w' := by
  go_enter Try.func15, Try.ntmps15
  go_wp2_with fail
  go_ret
  exact ⟨rfl, rfl⟩
theorem hiNodes (b N : Nat) (E : List Edg) (r : List Nat) (S : List SI) (w : World) (h : HiAt w b N E r S) : Calls Try.prog 14 #[.pointer (some ⟨b, 0, none⟩)] w fun e w' => e = .returned (.int .i64 (N : Int)) ∧ w = w' := by
  obtain ⟨A, c, B, d, A2, c2, go, gi_, h1, _⟩ := h
  go_enter Try.func14, Try.ntmps14
  go_wp2_with fail
  go_ret
  exact ⟨rfl, rfl⟩
theorem hiSize (b N : Nat) (E : List Edg) (r : List Nat) (S : List SI) (w : World) (h : HiAt w b N E r S) : Calls Try.prog 15 #[.pointer (some ⟨b, 0, none⟩)] w fun e w' => e = .returned (.int .i64 (S.length : Int)) ∧ w = w' := by
  obtain ⟨A, c, B, d, A2, c2, go, gi_, h1, _⟩ := h
  generalize S.length = n2 at *
  go_enter Try.func15, Try.ntmps15
  go_wp2_with fail
  go_ret
  exact ⟨rfl, rfl⟩
set_option maxHeartbeats 1000000 in
theorem hiRankNil (v : Int) (w : World) : Calls Try.prog 21 #[.pointer none, .int .i64 v] w fun e w' => e = .returned (.int .i64 (-1)) ∧ Grows w w' := by
  have CN := hide (fun (W : World) => hiNodesNil W)
  by_cases hv : v < 0
  · skip
    go_enter Try.func21, Try.ntmps21
    go_wp2_with (go_at_call 14; refine (CN.out _).mono ?_; rintro e w' ⟨rfl, rfl⟩)
    go_ret
    exact ⟨rfl, GG⟩
  · have hv2 : 0 ≤ v := by omega
    clear hv
    go_enter Try.func21, Try.ntmps21
    go_wp2_with (go_at_call 14; refine (CN.out _).mono ?_; rintro e w' ⟨rfl, rfl⟩)
    all_goals first | (exfalso; omega) | (go_ret; exact ⟨rfl, GG⟩)
set_option maxHeartbeats 1000000 in
theorem hiShortcutNil (i : Int) (w : World) : Calls Try.prog 20 #[.pointer none, .int .i64 i] w fun e w' => e = .returned (.tuple #[.agg #[.int .i64 0, .int .i64 0, .int .u64 0, .int .i64 0, .int .i64 0, .int .i64 0], .bool false]) ∧ Grows w w' := by
  have CN := hide (fun (W : World) => hiSizeNil W)
  by_cases hv : i < 0
  · skip
    go_enter Try.func20, Try.ntmps20
    go_wp2_with (go_at_call 15; refine (CN.out _).mono ?_; rintro e w' ⟨rfl, rfl⟩)
    exact bodyPost_ret (v := .tuple #[.agg #[.int .i64 0, .int .i64 0, .int .u64 0, .int .i64 0, .int .i64 0, .int .i64 0], .bool false]) (by simp (maxDischargeDepth := 6) [results, Try.results20, go_sem]) rfl ⟨rfl, GG⟩
  · have hv2 : 0 ≤ i := by omega
    clear hv
    go_enter Try.func20, Try.ntmps20
    go_wp2_with (go_at_call 15; refine (CN.out _).mono ?_; rintro e w' ⟨rfl, rfl⟩)
    all_goals first | (exfalso; omega) | exact bodyPost_ret (v := .tuple #[.agg #[.int .i64 0, .int .i64 0, .int .u64 0, .int .i64 0, .int .i64 0, .int .i64 0], .bool false]) (by simp (maxDischargeDepth := 6) [results, Try.results20, go_sem]) rfl ⟨rfl, GG⟩
set_option maxHeartbeats 1000000 in
theorem hiGraphNil (w : World) : Calls Try.prog 17 #[.pointer none] w fun e w' => e = .returned (.agg #[.int .i64 0, .slice none 0 0]) ∧ Grows w w' := by
  go_enter Try.func17, Try.ntmps17
  go_wp2_with fail
  exact bodyPost_ret (v := .agg #[.int .i64 0, .slice none 0 0]) (by simp (maxDischargeDepth := 6) [results, Try.results17, go_sem]) rfl ⟨rfl, GG⟩
set_option maxHeartbeats 1000000 in
theorem hiHierarchyNil (w : World) : Calls Try.prog 19 #[.pointer none] w fun e w' => e = .returned (.agg #[.slice none 0 0, .slice none 0 0]) ∧ Grows w w' := by
  go_enter Try.func19, Try.ntmps19
  go_wp2_with fail
  exact bodyPost_ret (v := .agg #[.slice none 0 0, .slice none 0 0]) (by simp (maxDischargeDepth := 6) [results, Try.results19, go_sem]) rfl ⟨rfl, GG⟩
set_option maxHeartbeats 1000000 in
theorem hiRowNil (v : Int) (back : Bool) (w : World) : Calls Try.prog 54 #[.pointer none, .int .i64 v, .bool back] w fun e w' => e = .returned (.slice none 0 0) ∧ Grows w w' := by
  have CN := hide (fun (W : World) => hiNodesNil W)
  by_cases hv : v < 0
  · skip
    go_enter Try.func54, Try.ntmps54
    go_wp2_with (go_at_call 14; refine (CN.out _).mono ?_; rintro e w' ⟨rfl, rfl⟩)
    go_ret
    exact ⟨rfl, GG⟩
  · have hv2 : 0 ≤ v := by omega
    clear hv
    go_enter Try.func54, Try.ntmps54
    go_wp2_with (go_at_call 14; refine (CN.out _).mono ?_; rintro e w' ⟨rfl, rfl⟩)
    all_goals first | (exfalso; omega) | (go_ret; exact ⟨rfl, GG⟩)
set_option maxHeartbeats 1000000 in
theorem hiUpNil (v : Int) (back : Bool) (w : World) : Calls Try.prog 22 #[.pointer none, .int .i64 v, .bool back] w fun e w' => e = .returned (.slice none 0 0) ∧ Grows w w' := by
  have CR := hide (fun (W : World) => hiRowNil v back W)
  have CC := hide (fun (W : World) => Try.slices_Clone_int_nil 0 0 W)
  go_enter Try.func22, Try.ntmps22
  go_wp2_with (first
    | (go_at_call 54; refine (CR.out _).mono ?_; rintro e w' ⟨rfl, hg⟩; obtain ⟨x1, rfl⟩ := hg.later; clear hg)
    | (go_at_call 55; refine (CC.out _).mono ?_; rintro e w' ⟨rfl, rfl⟩))
  go_ret
  exact ⟨rfl, GG⟩
def GiveHR (w : World) (N : Nat) (r : List Nat) (S : List SI) (e : Ending) (w' : World) : Prop := ∃ B d A c, e = .returned (.agg #[.slice B N d, .slice A S.length c]) ∧ Rd w' B 1 N (nv r) ∧ Rd w' A 6 S.length (sis S) ∧ S.length ≤ c ∧ Grows w w'
set_option maxHeartbeats 2000000 in
theorem hiHierarchy (b N : Nat) (E : List Edg) (r : List Nat) (S : List SI) (w : World) (h : HiAt w b N E r S) (hN : N ≤ 1000000) (hS : S.length ≤ 1000000) : Calls Try.prog 19 #[.pointer (some ⟨b, 0, none⟩)] w (GiveHR w N r S) := by
  obtain ⟨A, c, B, d, A2, c2, go, gi_, h1, _, h3, h4, _⟩ := h
  have CC := hide (fun (W : World) (g : Grows w W) => hiClone B N d (nvI r) A2 S.length c2 S W (by rw [← nvI_vals]; exact h3.grows g) hN (h4.grows g) hS)
  unfold GiveHC at CC
  unfold GiveHR
  clear h3 h4
  generalize S.length = n2 at *
  go_enter Try.func19, Try.ntmps19
  go_wp2_with (go_at_call 53; refine (CC.out _ GG).mono ?_; rintro e w' ⟨B1, d1, A1, c1, rfl, ho1, ho2, hg⟩; obtain ⟨x1, rfl⟩ := hg.later; have HO1 := hide ho1; have HO2 := hide ho2; clear ho1 ho2 hg)
  have hz1 := x1.size
  refine bodyPost_ret (v := .agg #[.slice B1 N d1, .slice A1 n2 c1]) (by simp (maxDischargeDepth := 6) [results, Try.results19, go_sem, *]) rfl ⟨B1, d1, A1, c1, rfl, ?_, ?_, HO2.out.capH, GG⟩
  · have := (((HO1.out).low (q := ⟨w.heap.size, 0, none⟩) (by simp) (.slice B1 N d1)).low (q := ⟨w.heap.size, 1, none⟩) (by simp) (.slice A1 n2 c1)).rd
    rw [← nvI_vals] at this
    exact this
  · exact (((HO2.out).low (q := ⟨w.heap.size, 0, none⟩) (by simp) (.slice B1 N d1)).low (q := ⟨w.heap.size, 1, none⟩) (by simp) (.slice A1 n2 c1)).rd
def GiveGR (w : World) (N : Nat) (E : List Edg) (e : Ending) (w' : World) : Prop := ∃ A c, e = .returned (.agg #[.int .i64 (N : Int), .slice A E.length c]) ∧ Rd w' A 3 E.length (esCells E) ∧ Grows w w'
set_option maxHeartbeats 2000000 in
theorem hiGraph (b N : Nat) (E : List Edg) (r : List Nat) (S : List SI) (w : World) (h : HiAt w b N E r S) (hE : E.length ≤ 1000000) : Calls Try.prog 17 #[.pointer (some ⟨b, 0, none⟩)] w (GiveGR w N E) := by
  obtain ⟨A, c, B, d, A2, c2, go, gi_, h1, h2, _⟩ := h
  have CC := hide (fun (W : World) (g : Grows w W) => gClone (N : Int) A E.length c E W (h2.grows g) hE)
  unfold GiveOG at CC
  unfold GiveGR
  clear h2
  generalize E.length = n at *
  go_enter Try.func17, Try.ntmps17
  go_wp2_with (go_at_call 52; refine (CC.out _ GG).mono ?_; rintro e w' ⟨A1, c1, rfl, ho1, hg⟩; obtain ⟨x1, rfl⟩ := hg.later; have HO1 := hide ho1; clear ho1 hg)
  refine bodyPost_ret (v := .agg #[.int .i64 (N : Int), .slice A1 n c1]) (by simp (maxDischargeDepth := 6) [results, Try.results17, go_sem, *]) rfl ⟨A1, c1, rfl, ?_, GG⟩
  exact (((HO1.out).low (q := ⟨w.heap.size, 0, none⟩) (by simp) (.int .i64 (N : Int))).low (q := ⟨w.heap.size, 1, none⟩) (by simp) (.slice A1 n c1)).rd
set_option maxHeartbeats 2000000 in
theorem hiShortcut (b N : Nat) (E : List Edg) (r : List Nat) (S : List SI) (i : Nat) (w : World) (h : HiAt w b N E r S) (hi : i < S.length) : Calls Try.prog 20 #[.pointer (some ⟨b, 0, none⟩), .int .i64 (i : Int)] w fun e w' => e = .returned (.tuple #[siVal (gsi S i), .bool true]) ∧ Grows w w' := by
  have CN := hide (fun (W : World) (g : Grows w W) => hiSize b N E r S W (h.grow g))
  obtain ⟨A, c, B, d, A2, c2, go, gi_, h1, _, _, h4, _⟩ := h
  obtain ⟨bb, off, rfl, hcc⟩ := h4.siH (by omega)
  obtain ⟨c1, c2', c3, c4, c5, c6⟩ := hcc i hi
  unfold siVal
  clear hcc h4
  generalize S.length = n2 at *
  generalize (gsi S i).f = sf at *
  generalize (gsi S i).t = st at *
  generalize (gsi S i).w = sw at *
  generalize (gsi S i).e = se at *
  generalize (gsi S i).a = sa at *
  generalize (gsi S i).b = sb at *
  go_enter Try.func20, Try.ntmps20
  go_wp2_with (go_at_call 15; refine (CN.out _ GG).mono ?_; rintro e w' ⟨rfl, rfl⟩)
  all_goals first | (exfalso; omega) | exact bodyPost_ret (v := .tuple #[.agg #[.int .i64 sf, .int .i64 st, .int .u64 sw, .int .i64 se, .int .i64 sa, .int .i64 sb], .bool true]) (by simp (maxDischargeDepth := 6) [results, Try.results20, go_sem]) rfl ⟨rfl, GG⟩
end Go.Proofs.Yteodapefimlakaa

/- Contract: a hierarchy of a graph is built, and looked up. -/
namespace Go.Proofs.Yteodapefimlakaa
open Go Go.RowKit
attribute [local go_sem] Oper.semAt_some
def blt (N hops settles : Nat) (E : List Edg) (vs : List Nat) : List Sc := (Ctr.goAll hops settles vs (ctrG N E)).S
def GiveHB (w : World) (N hops settles : Nat) (E : List Edg) (rk : List Nat → Prop) (e : Ending) (w' : World) : Prop :=
  ∃ b r vs, e = .returned (.tuple #[.pointer (some ⟨b, 0, none⟩), .int .i64 0]) ∧ InvR N r vs ∧ rk r ∧ HiAt w' b N E r ((blt N hops settles E vs).map Sc.si) ∧ Grows w w'
set_option maxHeartbeats 2000000 in
theorem hiBuiltBad (N : Int) (A : Option Addr) (n c : Nat) (E : List Edg) (hops settles : Int) (B : Option Addr) (m d : Nat) (l : List Int) (w : World) (h : Rd w A 3 n (esCells E)) (hn : n ≤ 1000000) (hl : Rd w B 1 m (l.map (.int .i64))) (hm : m ≤ 1000000) (hbad : rightF N E ≠ 0 ∨ coRB hops settles l = false) :
    Calls Try.prog 26 #[.agg #[.int .i64 N, .slice A n c], .agg #[.int .i64 hops, .int .i64 settles, .slice B m d]] w fun e w' => e = .returned (.tuple #[.pointer none, .int .i64 1]) ∧ Grows w w' := by
  have CB := hide (fun (W : World) (g : Grows w W) => coBuildBad N A n c E hops settles B m d l W (h.grows g) hn (hl.grows g) hm hbad)
  clear h hl hbad
  go_enter Try.func26, Try.ntmps26
  go_wp2_with (go_at_call 25; refine (CB.out _ GG).mono ?_; rintro e w' ⟨rfl, hg⟩; obtain ⟨x1, rfl⟩ := hg.later; clear hg)
  exact bodyPost_ret (v := .tuple #[.pointer none, .int .i64 1]) (by simp (maxDischargeDepth := 6) [results, Try.results26, go_sem]) rfl ⟨rfl, GG⟩
set_option maxHeartbeats 2000000 in
theorem hiBuiltRange (N : Int) (A : Option Addr) (n c : Nat) (E : List Edg) (hops settles : Int) (B : Option Addr) (m d : Nat) (l : List Int) (w : World) (h : Rd w A 3 n (esCells E)) (hn : n ≤ 1000000) (hl : Rd w B 1 m (l.map (.int .i64))) (hm : m ≤ 1000000) (hok : rightF N E = 0) (hor : coRB hops settles l = true) (hm0 : 0 < m) (hmN : (m : Int) ≠ N) :
    Calls Try.prog 26 #[.agg #[.int .i64 N, .slice A n c], .agg #[.int .i64 hops, .int .i64 settles, .slice B m d]] w fun e w' => e = .returned (.tuple #[.pointer none, .int .i64 2]) ∧ Grows w w' := by
  have CB := hide (fun (W : World) (g : Grows w W) => coBuildRange N A n c E hops settles B m d l W (h.grows g) hn (hl.grows g) hm hok hor hm0 hmN)
  clear h hl hok hor hmN
  go_enter Try.func26, Try.ntmps26
  go_wp2_with (go_at_call 25; refine (CB.out _ GG).mono ?_; rintro e w' ⟨rfl, hg⟩; obtain ⟨x1, rfl⟩ := hg.later; clear hg)
  exact bodyPost_ret (v := .tuple #[.pointer none, .int .i64 2]) (by simp (maxDischargeDepth := 6) [results, Try.results26, go_sem]) rfl ⟨rfl, GG⟩
set_option maxHeartbeats 2000000 in
theorem hiBuilt (N : Nat) (A : Option Addr) (n c : Nat) (E : List Edg) (hops settles : Nat) (B : Option Addr) (m d : Nat) (l : List Int) (w : World) (h : Rd w A 3 n (esCells E)) (hok : rightF N E = 0) (hl : Rd w B 1 m (l.map (.int .i64))) (hor : coRB hops settles l = true) (hN : N ≤ 12) (hn : n ≤ 40) (hm : m = 0 ∨ m = N) :
    Calls Try.prog 26 #[.agg #[.int .i64 (N : Int), .slice A n c], .agg #[.int .i64 (hops : Int), .int .i64 (settles : Int), .slice B m d]] w (GiveHB w N hops settles E (fun r => 0 < m → nvI r = l)) := by
  have hel := h.elen
  have CB := hide (fun (W : World) (g : Grows w W) => coBuildAny N A n c E hops settles B m d l W (h.grows g) hok (hl.grows g) hor hN hn hm)
  have CN := hide (fun (r vs : List Nat) (gr cr : Nat) (As : Option Addr) (cs : Nat) (W : World) (g : Grows w W) (hi : InvR N r vs) (hrow : Rd W (some ⟨gr, 0, none⟩) 1 N (nv r)) (hrd : Rd W As 6 (blt N hops settles E vs).length (hss (blt N hops settles E vs))) (hcap : (blt N hops settles E vs).length ≤ cs) => by
    obtain ⟨b1, b2, b3⟩ := built_ok (hops := hops) (settles := settles) hok hN (by omega) hi
    have hlm : ((blt N hops settles E vs).map Sc.si).length = (blt N hops settles E vs).length := List.length_map ..
    have := hiNew N A c E (some ⟨gr, 0, none⟩) cr r As cs ((blt N hops settles E vs).map Sc.si) W (by rw [hel]; exact h.grows g) hok hrow (by rw [hlm, ← sis_of]; exact hrd) (by rw [hlm]; exact Nat.le_trans b3 (by omega)) (by rw [hlm]; exact hcap) b1
    rw [hlm, hel] at this
    exact this)
  unfold GiveH at CB
  unfold GiveHi at CN
  unfold GiveHB
  clear h hok hl hor hel
  have HBL : Hid (∀ vs, (Ctr.goAll hops settles vs (ctrG N E)).S = blt N hops settles E vs) := fun _ => rfl
  simp only [HBL.out] at CB
  go_enter Try.func26, Try.ntmps26
  go_upto_region 2 with (go_at_call 25; refine (CB.out _ GG).mono ?_; rintro e w' ⟨gr, cr, As, cs, r, vs, rfl, hI, hrk, hrow, hrd, hcap, hg⟩; obtain ⟨x1, rfl⟩ := hg.later; have HI := hide hI; have HRK := hide hrk; have HROW := hide hrow; have HRD := hide hrd; have HCAP := hide hcap; clear hI hrk hrow hrd hcap hg)
  have hgw : Grows w x1.now := GG
  have CN2 := hide (fun (W : World) (g : Grows x1.now W) => CN.out r vs gr cr As cs W (hgw.trans g) HI.out (HROW.out.rd.grows g) (HRD.out.grows g) HCAP.out)
  clear CN HROW HRD HCAP CB HBL
  generalize (blt N hops settles E vs).length = n2 at *
  go_wp2_with (go_at_call 12; refine (CN2.out _ GG).mono ?_; rintro e w' ⟨b, rfl, hh, hg⟩; obtain ⟨x2, rfl⟩ := hg.later; have HH := hide hh; clear hh hg)
  exact bodyPost_ret (v := .tuple #[.pointer (some ⟨b, 0, none⟩), .int .i64 0]) (by simp (maxDischargeDepth := 6) [results, Try.results26, go_sem]) rfl ⟨b, r, vs, rfl, HI.out, HRK.out, HH.out, GG⟩
end Go.Proofs.Yteodapefimlakaa

/- A session's graph in memory: what it may, a new one, and one that loads. -/
namespace Go.Proofs.Yteodapefimlakaa
open Go Go.RowKit
attribute [local go_sem] Oper.semAt_some
theorem HiRows.touch {w w' : World} {g N b : Nat} {F : Nat → List Nat} {cs : List Value} (h : HiRows w g N F) (k : Arr w b 134 cs) (ht : Touch (fun k => k = b) w w') : HiRows w' g N F := by
  obtain ⟨Af, cf, h1, h2⟩ := h
  exact ⟨Af, cf, h1.touch ht (h1.ne k (by decide)), fun v hv => (h2 v hv).touch ht (fun p hp => (h2 v hv).not_arr k (by decide) p hp)⟩
theorem HiAt.touch {w w' : World} {b0 b N : Nat} {E : List Edg} {r : List Nat} {S : List SI} {cs : List Value} (h : HiAt w b0 N E r S) (k : Arr w b 134 cs) (ht : Touch (fun k => k = b) w w') : HiAt w' b0 N E r S := by
  obtain ⟨A, c, B, d, A2, c2, go, gi_, h1, h2, h3, h4, h5, h6, h7, h8, h9, h10⟩ := h
  have o1 := h8.touch ht (fun p hp => h8.not_arr k (by decide) p hp)
  have o2 := h9.touch ht (fun p hp => h9.not_arr k (by decide) p hp)
  have o3 := h10.touch ht (fun p hp => h10.not_arr k (by decide) p hp)
  exact ⟨A, c, B, d, A2, c2, go, gi_, h1.touch ht (h1.ne k (by decide)), o1.rd, o2.rd, o3.rd, h5, h6.touch k ht, h7.touch k ht, o1, o2, o3⟩
structure StV where
  hops : Int
  settles : Int
  B : Option Addr
  m : Nat
  d : Nat
  ph : Int
  N : Int
  A : Option Addr
  n : Nat
  c : Nat
  hp : Option Addr
  l1 : Nat
  l2 : Nat
  l3 : Nat
def StV.cells (s : StV) : List Value := [.int .i64 s.hops, .int .i64 s.settles, .slice s.B s.m s.d, .int .i64 s.ph, .int .i64 s.N, .slice s.A s.n s.c, .pointer s.hp, .int .i64 (s.l1 : Int), .int .i64 (s.l2 : Int), .int .i64 (s.l3 : Int)]
def StAt (w : World) (b : Nat) (s : StV) (l : List Int) (E : List Edg) : Prop :=
  Arr w b 134 s.cells ∧ (Rd w s.B 1 s.m (l.map (.int .i64)) ∧ ∀ p, s.B = some p → p.block ≠ b) ∧ (Rd w s.A 3 s.n (esCells E) ∧ ∀ p, s.A = some p → p.block ≠ b)
theorem StAt.grow {w w' : World} {b : Nat} {s : StV} {l : List Int} {E : List Edg} (h : StAt w b s l E) (hg : Grows w w') : StAt w' b s l E :=
  ⟨h.1.grow hg, ⟨h.2.1.1.grows hg, h.2.1.2⟩, h.2.2.1.grows hg, h.2.2.2⟩
def mayF (ph need : Int) : Int := if ph = 4 then 14 else if ph = 0 then (if 0 < need then 11 else 0) else if ph = 1 then (if 1 < need then 12 else 0) else if ph = 3 then (if 1 < need then 13 else 0) else 0
set_option maxHeartbeats 1000000 in
theorem seMay (b : Nat) (ph need : Int) (w : World) (h : Holds w ⟨b, 3, none⟩ (.int .i64 ph)) (h0 : 0 ≤ ph ∧ ph ≤ 4) : Calls Try.prog 77 #[.pointer (some ⟨b, 0, none⟩), .int .i64 need] w fun e w' => e = .returned (.int .i64 (mayF ph need)) ∧ w = w' := by
  rcases (by omega : ph = 0 ∨ ph = 1 ∨ ph = 2 ∨ ph = 3 ∨ ph = 4) with rfl | rfl | rfl | rfl | rfl
  · by_cases h1 : 0 < need
    · have HM : Hid (mayF 0 need = 11) := hide (by simp [mayF, h1])
      clear h0
      go_enter Try.func77, Try.ntmps77
      go_wp2_with fail
      go_ret
      exact ⟨by rw [HM.out]; rfl, rfl⟩
    · have HM : Hid (mayF 0 need = 0) := hide (by simp [mayF, h1])
      have h2 : need ≤ 0 := by omega
      clear h0 h1
      go_enter Try.func77, Try.ntmps77
      go_wp2_with fail
      go_ret
      exact ⟨by rw [HM.out]; rfl, rfl⟩
  · by_cases h1 : 1 < need
    · have HM : Hid (mayF 1 need = 12) := hide (by simp [mayF, h1])
      clear h0
      go_enter Try.func77, Try.ntmps77
      go_wp2_with fail
      go_ret
      exact ⟨by rw [HM.out]; rfl, rfl⟩
    · have HM : Hid (mayF 1 need = 0) := hide (by simp [mayF, h1])
      have h2 : need ≤ 1 := by omega
      clear h0 h1
      go_enter Try.func77, Try.ntmps77
      go_wp2_with fail
      go_ret
      exact ⟨by rw [HM.out]; rfl, rfl⟩
  · have HM : Hid (mayF 2 need = 0) := hide (by simp [mayF])
    clear h0
    go_enter Try.func77, Try.ntmps77
    go_wp2_with fail
    go_ret
    exact ⟨by rw [HM.out]; rfl, rfl⟩
  · by_cases h1 : 1 < need
    · have HM : Hid (mayF 3 need = 13) := hide (by simp [mayF, h1])
      clear h0
      go_enter Try.func77, Try.ntmps77
      go_wp2_with fail
      go_ret
      exact ⟨by rw [HM.out]; rfl, rfl⟩
    · have HM : Hid (mayF 3 need = 0) := hide (by simp [mayF, h1])
      have h2 : need ≤ 1 := by omega
      clear h0 h1
      go_enter Try.func77, Try.ntmps77
      go_wp2_with fail
      go_ret
      exact ⟨by rw [HM.out]; rfl, rfl⟩
  · have HM : Hid (mayF 4 need = 14) := hide (by simp [mayF])
    clear h0
    go_enter Try.func77, Try.ntmps77
    go_wp2_with fail
    go_ret
    exact ⟨by rw [HM.out]; rfl, rfl⟩
theorem seReady (b : Nat) (ph : Int) (w : World) (h : Holds w ⟨b, 3, none⟩ (.int .i64 ph)) (h0 : 0 ≤ ph ∧ ph ≤ 4) : Calls Try.prog 75 #[.pointer (some ⟨b, 0, none⟩)] w fun e w' => e = .returned (.int .i64 (mayF ph 2)) ∧ w = w' := by
  have C := hide (fun (W : World) (h : Holds W ⟨b, 3, none⟩ (.int .i64 ph)) => seMay b ph 2 W h h0)
  clear h0
  go_enter Try.func75, Try.ntmps75
  go_wp2_with (go_at_call 77; refine (C.out _ inferInstance).mono ?_; rintro e w' ⟨rfl, rfl⟩)
  go_ret
  exact ⟨rfl, rfl⟩
theorem seHierNo (b : Nat) (ph : Int) (w : World) (h : Holds w ⟨b, 3, none⟩ (.int .i64 ph)) (h0 : 0 ≤ ph ∧ ph ≤ 4) (hne : mayF ph 2 ≠ 0) : Calls Try.prog 48 #[.pointer (some ⟨b, 0, none⟩)] w fun e w' => e = .returned (.tuple #[.pointer none, .int .i64 (mayF ph 2)]) ∧ w = w' := by
  have C := hide (fun (W : World) (h : Holds W ⟨b, 3, none⟩ (.int .i64 ph)) => seReady b ph W h h0)
  have b1 : (mayF ph 2 == (0 : Int)) = false := by simpa using hne
  have b2 : (mayF ph 2 != (0 : Int)) = true := by simpa using hne
  generalize mayF ph 2 = q at *
  clear h0 hne
  go_enter Try.func48, Try.ntmps48
  go_wp2_with (go_at_call 75; refine (C.out _ inferInstance).mono ?_; rintro e w' ⟨rfl, rfl⟩)
  refine bodyPost_ret (v := .tuple #[.pointer none, .int .i64 q]) (by simp [results, Try.results48, go_sem]) rfl ⟨rfl, rfl⟩
theorem seHier (b : Nat) (hp : Option Addr) (w : World) (h : Holds w ⟨b, 3, none⟩ (.int .i64 2)) (hh : Holds w ⟨b, 6, none⟩ (.pointer hp)) : Calls Try.prog 48 #[.pointer (some ⟨b, 0, none⟩)] w fun e w' => e = .returned (.tuple #[.pointer hp, .int .i64 0]) ∧ w = w' := by
  have C := hide (fun (W : World) (h : Holds W ⟨b, 3, none⟩ (.int .i64 2)) => seReady b 2 W h (by omega))
  have e : mayF 2 2 = 0 := by decide
  rw [e] at C
  clear e
  go_enter Try.func48, Try.ntmps48
  go_wp2_with (go_at_call 75; refine (C.out _ inferInstance).mono ?_; rintro e w' ⟨rfl, rfl⟩)
  refine bodyPost_ret (v := .tuple #[.pointer hp, .int .i64 0]) (by simp [results, Try.results48, go_sem]) rfl ⟨rfl, rfl⟩
end Go.Proofs.Yteodapefimlakaa

/- A session's graph: a new one, one that loads. -/
namespace Go.Proofs.Yteodapefimlakaa
open Go Go.RowKit
attribute [local go_sem] Oper.semAt_some
set_option maxHeartbeats 1000000 in
theorem seNewBad (hops settles : Int) (B : Option Addr) (m d : Nat) (l : List Int) (w : World) (hl : Rd w B 1 m (l.map (.int .i64))) (hm : m ≤ 1000000) (hbad : coRB hops settles l = false) :
    Calls Try.prog 45 #[.agg #[.int .i64 hops, .int .i64 settles, .slice B m d]] w fun e w' => e = .returned (.tuple #[.pointer none, .int .i64 1]) ∧ Grows w w' := by
  have C1 := hide (fun (W : World) (g : Grows w W) => coRight hops settles B m d l W (hl.grows g) hm)
  rw [hbad] at C1
  clear hl hbad
  go_enter Try.func45, Try.ntmps45
  go_wp2_with (go_at_call 33; refine (C1.out _ GG).mono ?_; rintro e w' ⟨rfl, hg⟩; obtain ⟨x1, rfl⟩ := hg.later; clear hg)
  exact bodyPost_ret (v := .tuple #[.pointer none, .int .i64 1]) (by simp (maxDischargeDepth := 6) [results, Try.results45, go_sem]) rfl ⟨rfl, GG⟩
def GiveSe (w : World) (hops settles : Int) (m : Nat) (l : List Int) (e : Ending) (w' : World) : Prop :=
  ∃ b B d, e = .returned (.tuple #[.pointer (some ⟨b, 0, none⟩), .int .i64 0]) ∧ StAt w' b ⟨hops, settles, B, m, d, 0, 0, none, 0, 0, none, 0, 0, 0⟩ l [] ∧ w.heap.size ≤ b ∧ Grows w w'
set_option maxHeartbeats 1000000 in
theorem seNew (hops settles : Int) (B : Option Addr) (m d : Nat) (l : List Int) (w : World) (hl : Rd w B 1 m (l.map (.int .i64))) (hm : m ≤ 1000000) (hok : coRB hops settles l = true) :
    Calls Try.prog 45 #[.agg #[.int .i64 hops, .int .i64 settles, .slice B m d]] w (GiveSe w hops settles m l) := by
  have C1 := hide (fun (W : World) (g : Grows w W) => coRight hops settles B m d l W (hl.grows g) hm)
  rw [hok] at C1
  have C2 := hide (fun (W : World) (g : Grows w W) => cloneIH B m d l W (hl.grows g) hm)
  clear hl hok
  go_enter Try.func45, Try.ntmps45
  go_wp2_with (first | (go_at_call 33; refine (C1.out _ GG).mono ?_; rintro e w' ⟨rfl, hg⟩; obtain ⟨x1, rfl⟩ := hg.later; clear hg) | (go_at_call 55; refine (C2.out _ GG).mono ?_; rintro e w' ⟨A1, c1, rfl, ho, hg⟩; obtain ⟨x2, rfl⟩ := hg.later; have HO := hide ho; clear hg ho))
  have h1 := x1.size
  have h2 := x2.size
  simp at h1
  refine bodyPost_ret (v := .tuple #[.pointer (some ⟨x2.now.heap.size, 0, none⟩), .int .i64 0]) (by simp (maxDischargeDepth := 6) [results, Try.results45, go_sem]) rfl ⟨x2.now.heap.size, A1, c1, rfl, ?_, by omega, GG⟩
  have hA : Arr ((x2.now.setCell ⟨w.heap.size, 2, none⟩ (.slice A1 m c1)).alloc (.cells #[.int .i64 hops, .int .i64 settles, .slice A1 m c1, .int .i64 0, .int .i64 0, .slice none 0 0, .pointer none, .int .i64 0, .int .i64 0, .int .i64 0] 134)) x2.now.heap.size 134 [.int .i64 hops, .int .i64 settles, .slice A1 m c1, .int .i64 0, .int .i64 0, .slice none 0 0, .pointer none, .int .i64 0, .int .i64 0, .int .i64 0] := ⟨by rw [show ∀ (w : World) (o : Obj), (w.alloc o).heap = w.heap.push o from fun _ _ => rfl, Array.getElem?_push, if_pos (by simp)]⟩
  have hO := (HO.out.low (q := ⟨w.heap.size, 2, none⟩) (show w.heap.size < x1.now.heap.size by omega) (.slice A1 m c1)).grows ((Grows.refl _).new (.cells #[.int .i64 hops, .int .i64 settles, .slice A1 m c1, .int .i64 0, .int .i64 0, .slice none 0 0, .pointer none, .int .i64 0, .int .i64 0, .int .i64 0] 134))
  exact ⟨hA, ⟨hO.rd, hO.not_arr hA (by decide)⟩, ⟨by simp [esCells], fun h => absurd h (by simp)⟩, fun p h => by cases h⟩
set_option maxHeartbeats 1000000 in
theorem seLoadBad (b : Nat) (s : StV) (l : List Int) (E0 : List Edg) (N : Int) (A : Option Addr) (n c : Nat) (E : List Edg) (w : World) (hs : StAt w b s l E0) (hp : 0 ≤ s.ph ∧ s.ph ≤ 3) (h : Rd w A 3 n (esCells E)) (hn : n ≤ 1000000) (hbad : rightF N E ≠ 0) :
    Calls Try.prog 46 #[.pointer (some ⟨b, 0, none⟩), .agg #[.int .i64 N, .slice A n c]] w fun e w' => e = .returned (.int .i64 1) ∧ Grows w w' := by
  obtain ⟨hops, settles, B, m, d, ph, N0, A0, n0, c0, hpp, l1, l2, l3⟩ := s
  obtain ⟨ha, _, _⟩ := hs
  unfold StV.cells at ha
  dsimp only at ha hp
  have hm0 : mayF ph 0 = 0 := by rcases (by omega : ph = 0 ∨ ph = 1 ∨ ph = 2 ∨ ph = 3) with rfl | rfl | rfl | rfl <;> decide
  have CM := hide (fun (W : World) (h : Holds W ⟨b, 3, none⟩ (.int .i64 ph)) => seMay b ph 0 W h (by omega))
  rw [hm0] at CM
  have C1 := hide (fun (W : World) (g : Grows w W) => gRight N A n c E W (h.grows g) hn)
  have b1 : (rightF N E == (0 : Int)) = false := by simpa using hbad
  generalize rightF N E = q at *
  clear h hp hm0
  go_enter Try.func46, Try.ntmps46
  go_wp2_with (first | (go_at_call 77; refine (CM.out _ inferInstance).mono ?_; rintro e w' ⟨rfl, rfl⟩) | (go_at_call 56; refine (C1.out _ GG).mono ?_; rintro e w' ⟨rfl, hg⟩; obtain ⟨x1, rfl⟩ := hg.later; clear hg))
  go_ret
  exact ⟨rfl, GG⟩
def GiveSL (w : World) (b : Nat) (s : StV) (l : List Int) (N : Int) (n : Nat) (E : List Edg) (e : Ending) (w' : World) : Prop :=
  ∃ A c, e = .returned (.int .i64 0) ∧ StAt w' b ⟨s.hops, s.settles, s.B, s.m, s.d, 1, N, A, n, c, none, s.l1 + 1, s.l2, s.l3⟩ l E ∧ Touch (fun k => k = b) w w'
set_option maxRecDepth 20000 in
set_option maxHeartbeats 4000000 in
theorem seLoad (b : Nat) (s : StV) (l : List Int) (E0 : List Edg) (N : Int) (A : Option Addr) (n c : Nat) (E : List Edg) (w : World) (hs : StAt w b s l E0) (hp : 0 ≤ s.ph ∧ s.ph ≤ 3) (hl1 : s.l1 ≤ 1000000) (h : Rd w A 3 n (esCells E)) (hn : n ≤ 1000000) (hok : rightF N E = 0) :
    Calls Try.prog 46 #[.pointer (some ⟨b, 0, none⟩), .agg #[.int .i64 N, .slice A n c]] w (GiveSL w b s l N n E) := by
  obtain ⟨hops, settles, B, m, d, ph, N0, A0, n0, c0, hpp, l1, l2, l3⟩ := s
  obtain ⟨ha, hB, _⟩ := hs
  unfold StV.cells at ha
  unfold GiveSL StAt StV.cells
  dsimp only at ha hp hl1 hB ⊢
  have hm0 : mayF ph 0 = 0 := by rcases (by omega : ph = 0 ∨ ph = 1 ∨ ph = 2 ∨ ph = 3) with rfl | rfl | rfl | rfl <;> decide
  have CM := hide (fun (W : World) (h : Holds W ⟨b, 3, none⟩ (.int .i64 ph)) => seMay b ph 0 W h (by omega))
  rw [hm0] at CM
  have C1 := hide (fun (W : World) (g : Grows w W) => gRight N A n c E W (h.grows g) hn)
  rw [hok] at C1
  have hel := h.elen
  have C2 := hide (fun (W : World) (g : Grows w W) => gClone N A n c E W (h.grows g) hn)
  unfold GiveOG at C2
  rw [hel] at C2
  have HB := hide hB
  clear h hp hm0 hok hB hel
  go_enter Try.func46, Try.ntmps46
  go_wp2_with (first | (go_at_call 77; refine (CM.out _ inferInstance).mono ?_; rintro e w' ⟨rfl, rfl⟩) | (go_at_call 56; refine (C1.out _ GG).mono ?_; rintro e w' ⟨rfl, hg⟩; obtain ⟨x1, rfl⟩ := hg.later; clear hg) | (go_at_call 52; refine (C2.out _ GG).mono ?_; rintro e w' ⟨A1, c1, rfl, ho, hg⟩; obtain ⟨x2, rfl⟩ := hg.later; have HO := hide ho; clear hg ho))
  have a1 : Arr x2.now b 134 [.int .i64 hops, .int .i64 settles, .slice B m d, .int .i64 ph, .int .i64 N0, .slice A0 n0 c0, .pointer hpp, .int .i64 l1, .int .i64 l2, .int .i64 l3] := inferInstance
  have a2 := (((a1.set 4 (.int .i64 N)).set 5 (.slice A1 n c1)).set 6 (.pointer none)).set 3 (.int .i64 1)
  have ht : Touch (fun k => k = b) x2.now ((((x2.now.setCell ⟨b, 4, none⟩ (.int .i64 N)).setCell ⟨b, 5, none⟩ (.slice A1 n c1)).setCell ⟨b, 6, none⟩ (.pointer none)).setCell ⟨b, 3, none⟩ (.int .i64 1)) :=
    ((((Touch.refl (fun k => k = b) x2.now).set (p := ⟨b, 4, none⟩) (.inl rfl) _).set (p := ⟨b, 5, none⟩) (.inl rfl) _).set (p := ⟨b, 6, none⟩) (.inl rfl) _).set (p := ⟨b, 3, none⟩) (.inl rfl) _
  simp only [List.set_cons_zero, List.set_cons_succ] at a2
  have HG : Hid (Grows w x2.now) := hide GG
  have HT := hide ht
  have HA1 := hide a1
  generalize ((((x2.now.setCell ⟨b, 4, none⟩ (.int .i64 N)).setCell ⟨b, 5, none⟩ (.slice A1 n c1)).setCell ⟨b, 6, none⟩ (.pointer none)).setCell ⟨b, 3, none⟩ (.int .i64 1)) = W at *
  clear ht a1 ha C1 C2 CM
  go_region_with fail
  all_goals go_wp2_with fail
  rw [show IntKind.i64.wrap ((l1 : Int) + 1) = ((l1 + 1 : Nat) : Int) by rw [IntWalk.i64_in _ (by omega)]; omega]
  have a3 := (a2.set 7 (.int .i64 ((l1 + 1 : Nat) : Int))).drew
  simp only [List.set_cons_zero, List.set_cons_succ] at a3
  have hT := (HT.out.set (p := ⟨b, 7, none⟩) (.inl rfl) (.int .i64 ((l1 + 1 : Nat) : Int))).grows ((Grows.refl _).drew)
  have hB := HB.out
  have hne := HO.out.not_arr HA1.out (by decide)
  go_ret
  exact ⟨A1, c1, rfl, ⟨a3, ⟨(hB.1.grows HG.out).touch hT hB.2, hB.2⟩, (HO.out.touch hT hne).rd, hne⟩, (HG.out.touch (fun k => k = b)).trans hT⟩
end Go.Proofs.Yteodapefimlakaa

/- A session's graph: the rank that counts. -/
namespace Go.Proofs.Yteodapefimlakaa
open Go Go.RowKit
attribute [local go_sem] Oper.semAt_some
theorem field_hR (B A : Option Addr) (m d n c : Nat) (w : World) : (Instr.field 28 (.agg #[.slice B m d, .slice A n c]) 0).run Try.prog w = .ok (.slice B m d) w := by kernel_rfl
def GiveRk (w : World) (hops settles : Int) (l : List Int) (e : Ending) (w' : World) : Prop :=
  ∃ B m d, e = .returned (.agg #[.int .i64 hops, .int .i64 settles, .slice B m d]) ∧ Rd w' B 1 m (l.map (.int .i64)) ∧ Grows w w'
def GiveHO (w : World) (N : Nat) (r : List Nat) (S : List SI) (e : Ending) (w' : World) : Prop := ∃ B d A c, e = .returned (.agg #[.slice B N d, .slice A S.length c]) ∧ Own w' w.heap.size 3 1 B N d (nv r) ∧ Rd w' A 6 S.length (sis S) ∧ S.length ≤ c ∧ Grows w w'
set_option maxHeartbeats 2000000 in
theorem hiHierarchyO (b N : Nat) (E : List Edg) (r : List Nat) (S : List SI) (w : World) (h : HiAt w b N E r S) (hN : N ≤ 1000000) (hS : S.length ≤ 1000000) : Calls Try.prog 19 #[.pointer (some ⟨b, 0, none⟩)] w (GiveHO w N r S) := by
  obtain ⟨A, c, B, d, A2, c2, go, gi_, h1, _, h3, h4, _⟩ := h
  have CC := hide (fun (W : World) (g : Grows w W) => hiClone B N d (nvI r) A2 S.length c2 S W (by rw [← nvI_vals]; exact h3.grows g) hN (h4.grows g) hS)
  unfold GiveHC at CC
  unfold GiveHO
  clear h3 h4
  generalize S.length = n2 at *
  go_enter Try.func19, Try.ntmps19
  go_wp2_with (go_at_call 53; refine (CC.out _ GG).mono ?_; rintro e w' ⟨B1, d1, A1, c1, rfl, ho1, ho2, hg⟩; obtain ⟨x1, rfl⟩ := hg.later; have HO1 := hide ho1; have HO2 := hide ho2; clear ho1 ho2 hg)
  have hz1 := x1.size
  refine bodyPost_ret (v := .agg #[.slice B1 N d1, .slice A1 n2 c1]) (by simp (maxDischargeDepth := 6) [results, Try.results19, go_sem, *]) rfl ⟨B1, d1, A1, c1, rfl, ?_, ?_, HO2.out.capH, GG⟩
  · have := (((HO1.out).low (q := ⟨w.heap.size, 0, none⟩) (by simp) (.slice B1 N d1)).low (q := ⟨w.heap.size, 1, none⟩) (by simp) (.slice A1 n2 c1)).base (B' := w.heap.size) (by simp)
    rw [← nvI_vals] at this
    exact this
  · exact (((HO2.out).low (q := ⟨w.heap.size, 0, none⟩) (by simp) (.slice B1 N d1)).low (q := ⟨w.heap.size, 1, none⟩) (by simp) (.slice A1 n2 c1)).rd
set_option maxRecDepth 20000 in
set_option maxHeartbeats 2000000 in
theorem seRankO (b : Nat) (s : StV) (l : List Int) (E0 : List Edg) (w : World) (hs : StAt w b s l E0) (hp : s.hp = none) :
    Calls Try.prog 78 #[.pointer (some ⟨b, 0, none⟩), .slice none 0 0] w (GiveRk w s.hops s.settles (if (s.m : Int) = s.N then l else [])) := by
  obtain ⟨hops, settles, B, m, d, ph, N0, A0, n0, c0, hpp, l1, l2, l3⟩ := s
  obtain ⟨ha, hB, _⟩ := hs
  unfold StV.cells at ha
  dsimp only at ha hp hB ⊢
  subst hp
  have HB := hide hB
  clear hB
  by_cases hm : (m : Int) = N0
  · rw [if_pos hm]
    subst hm
    go_enter Try.func78, Try.ntmps78
    go_wp2_with fail
    ((first | refine wp_region_gen (by kernel_rfl) (by kernel_rfl) ?_); (repeat' (first | (refine gLex_val0 rfl (by kernel_rfl) (fun K hK => ?_); (go_simp; (try (simp only [↓IntWalk.iteOmega]; try go_simp)); (try simp (disch := omega) only [IntWalk.i64_in]); (try simp (disch := omega) only [IntWalk.u64_in]); first | (refine hK _ ?_; clear hK K) | (apply Exists.intro; refine ⟨fun x => ?_, hK _ ?_⟩; (first | fail); clear hK K))) | (refine gLex_undef rfl rfl rfl (by kernel_rfl) (fun K hK => ?_); go_simp; refine hK _ ?_; clear hK K) | (refine gLex_ask rfl rfl rfl ?_; first | (apply gAsk_yes; kernel_rfl; intro K hK; (go_simp; (try (simp only [↓IntWalk.iteOmega]; try go_simp)); (try simp (disch := omega) only [IntWalk.i64_in]); (try simp (disch := omega) only [IntWalk.u64_in]); first | (refine hK _ ?_; clear hK K) | (apply Exists.intro; refine ⟨fun x => ?_, hK _ ?_⟩; (first | fail); clear hK K))) | ((first | apply gAsk_no1 | apply gAsk_no2); kernel_rfl; intro K hK; simp [go_sem]; refine hK _ ?_; clear hK K) | (apply gAsk_part; kernel_rfl; all_goals (intro h K hK; (try simp only [Bool.not_true] at h); (try simp only [Bool.not_false] at h); (try simp only [decide_eq_true_eq] at h); (try simp only [decide_eq_false_iff_not] at h); first | (exfalso; first | contradiction | omega) | (go_simp; (try (simp only [↓IntWalk.iteOmega]; try go_simp)); (try simp (disch := omega) only [IntWalk.i64_in]); (try simp (disch := omega) only [IntWalk.u64_in]); first | (refine hK _ ?_; clear hK K) | (apply Exists.intro; refine ⟨fun x => ?_, hK _ ?_⟩; (first | fail); clear hK K))))))); all_goals ((apply gLex_end); intro x))
    go_wp2_with fail
    have hz1 := x.size
    exact bodyPost_ret (v := .agg #[.int .i64 hops, .int .i64 settles, .slice B m d]) (by simp (maxDischargeDepth := 6) [results, Try.results78, go_sem, *]) rfl ⟨B, m, d, rfl, HB.out.1.grows GG, GG⟩
  · rw [if_neg hm]
    have b1 : ((m : Int) != N0) = true := by simpa using hm
    go_enter Try.func78, Try.ntmps78
    go_wp2_with fail
    ((first | refine wp_region_gen (by kernel_rfl) (by kernel_rfl) ?_); (repeat' (first | (refine gLex_val0 rfl (by kernel_rfl) (fun K hK => ?_); (go_simp; (try (simp only [↓IntWalk.iteOmega]; try go_simp)); (try simp (disch := omega) only [IntWalk.i64_in]); (try simp (disch := omega) only [IntWalk.u64_in]); first | (refine hK _ ?_; clear hK K) | (apply Exists.intro; refine ⟨fun x => ?_, hK _ ?_⟩; (first | fail); clear hK K))) | (refine gLex_undef rfl rfl rfl (by kernel_rfl) (fun K hK => ?_); go_simp; refine hK _ ?_; clear hK K) | (refine gLex_ask rfl rfl rfl ?_; first | (apply gAsk_yes; kernel_rfl; intro K hK; (go_simp; (try (simp only [↓IntWalk.iteOmega]; try go_simp)); (try simp (disch := omega) only [IntWalk.i64_in]); (try simp (disch := omega) only [IntWalk.u64_in]); first | (refine hK _ ?_; clear hK K) | (apply Exists.intro; refine ⟨fun x => ?_, hK _ ?_⟩; (first | fail); clear hK K))) | ((first | apply gAsk_no1 | apply gAsk_no2); kernel_rfl; intro K hK; simp [go_sem]; refine hK _ ?_; clear hK K) | (apply gAsk_part; kernel_rfl; all_goals (intro h K hK; (try simp only [Bool.not_true] at h); (try simp only [Bool.not_false] at h); (try simp only [decide_eq_true_eq] at h); (try simp only [decide_eq_false_iff_not] at h); first | (exfalso; first | contradiction | omega) | (go_simp; (try (simp only [↓IntWalk.iteOmega]; try go_simp)); (try simp (disch := omega) only [IntWalk.i64_in]); (try simp (disch := omega) only [IntWalk.u64_in]); first | (refine hK _ ?_; clear hK K) | (apply Exists.intro; refine ⟨fun x => ?_, hK _ ?_⟩; (first | fail); clear hK K))))))); all_goals ((apply gLex_end); intro x))
    go_wp2_with fail
    have hz1 := x.size
    exact bodyPost_ret (v := .agg #[.int .i64 hops, .int .i64 settles, .slice none 0 0]) (by simp (maxDischargeDepth := 6) [results, Try.results78, go_sem, *]) rfl ⟨none, 0, 0, rfl, ⟨by simp, fun h => absurd h (by simp)⟩, GG⟩
set_option maxRecDepth 20000 in
set_option maxHeartbeats 2000000 in
theorem seRankH (b : Nat) (s : StV) (l : List Int) (E0 : List Edg) (bh N : Nat) (E : List Edg) (r : List Nat) (S : List SI) (w : World) (hs : StAt w b s l E0) (hp : s.hp = some ⟨bh, 0, none⟩) (hh : HiAt w bh N E r S) (hN : N ≤ 1000000) (hS : S.length ≤ 1000000) :
    Calls Try.prog 78 #[.pointer (some ⟨b, 0, none⟩), .slice none 0 0] w (GiveRk w s.hops s.settles (nvI r)) := by
  obtain ⟨hops, settles, B, m, d, ph, N0, A0, n0, c0, hpp, l1, l2, l3⟩ := s
  obtain ⟨ha, hB, _⟩ := hs
  unfold StV.cells at ha
  dsimp only at ha hp hB ⊢
  subst hp
  have CH := hide (fun (W : World) (g : Grows w W) => hiHierarchyO bh N E r S W (hh.grow g) hN hS)
  unfold GiveHO at CH
  have FH := field_hR
  clear hB hh
  go_enter Try.func78, Try.ntmps78
  go_wp2_with (go_at_call 19; refine (CH.out _ GG).mono ?_; rintro e w' ⟨B9, d9, A9, c9, rfl, h1, h2, h3, hg⟩; obtain ⟨x1, rfl⟩ := hg.later; have HR := hide h1; clear hg h1 h2 h3)
  have hz1 := x1.size
  simp at hz1
  refine bodyPost_ret (v := .agg #[.int .i64 hops, .int .i64 settles, .slice B9 N d9]) (by simp (maxDischargeDepth := 6) [results, Try.results78, go_sem, *]) rfl ⟨B9, N, d9, rfl, ?_, GG⟩
  have := (((((HR.out).low (q := ⟨w.heap.size + 1, 2, none⟩) (by simp) (.slice B9 N d9)).low (q := ⟨w.heap.size, 0, none⟩) (by simp; omega) (.int .i64 hops)).low (q := ⟨w.heap.size, 1, none⟩) (by simp; omega) (.int .i64 settles)).low (q := ⟨w.heap.size, 2, none⟩) (by simp; omega) (.slice B9 N d9)).rd
  rw [← nvI_vals]
  exact this
end Go.Proofs.Yteodapefimlakaa

/- A session's graph: one that is built. -/
namespace Go.Proofs.Yteodapefimlakaa
open Go Go.RowKit
attribute [local go_sem] Oper.semAt_some
def GiveSB (w : World) (b : Nat) (s : StV) (l : List Int) (k p q : Nat) (E : List Edg) (l' : List Int) (e : Ending) (w' : World) : Prop :=
  ∃ bh r vs, e = .returned (.int .i64 0) ∧ InvR k r vs ∧ (0 < l'.length → nvI r = l') ∧ HiAt w' bh k E r ((blt k p q E vs).map Sc.si) ∧ StAt w' b ⟨s.hops, s.settles, s.B, s.m, s.d, 2, s.N, s.A, s.n, s.c, some ⟨bh, 0, none⟩, s.l1, s.l2 + 1, s.l3⟩ l E ∧ Touch (fun k => k = b) w w'
set_option maxRecDepth 20000 in
set_option maxHeartbeats 4000000 in
theorem seBuild (b : Nat) (s : StV) (l : List Int) (E : List Edg) (k p q : Nat) (l' : List Int) (w : World) (hs : StAt w b s l E) (hp : 1 ≤ s.ph ∧ s.ph ≤ 3) (hl2 : s.l2 ≤ 1000000) (hN : s.N = (k : Int)) (hP : s.hops = (p : Int)) (hQ : s.settles = (q : Int))
    (hok : rightF (k : Int) E = 0) (hor : coRB (p : Int) (q : Int) l' = true) (hk : k ≤ 12) (hn : s.n ≤ 40) (hm : l'.length = 0 ∨ l'.length = k)
    (CR : ∀ W, Grows w W → Calls Try.prog 78 #[.pointer (some ⟨b, 0, none⟩), .slice none 0 0] W (GiveRk W s.hops s.settles l')) :
    Calls Try.prog 47 #[.pointer (some ⟨b, 0, none⟩), .slice none 0 0] w (GiveSB w b s l k p q E l') := by
  obtain ⟨hops, settles, B, m, d, ph, N0, A0, n0, c0, hpp, l1, l2, l3⟩ := s
  obtain ⟨ha, hB, hA⟩ := hs
  unfold StV.cells at ha
  unfold GiveSB StAt StV.cells
  dsimp only at ha hp hl2 hB hA hN hP hQ hn CR ⊢
  subst hN hP hQ
  have hm0 : mayF ph 1 = 0 := by rcases (by omega : ph = 1 ∨ ph = 2 ∨ ph = 3) with rfl | rfl | rfl <;> decide
  have CM := hide (fun (W : World) (h : Holds W ⟨b, 3, none⟩ (.int .i64 ph)) => seMay b ph 1 W h (by omega))
  rw [hm0] at CM
  have C1 := hide (fun (W : World) => rkRightNil W)
  have CRK := hide CR
  unfold GiveRk at CRK
  have CB := hide (fun (B9 : Option Addr) (m9 d9 : Nat) (W : World) (g : Grows w W) (h9 : Rd W B9 1 m9 (l'.map (.int .i64))) => by
    have hlm : l'.length = m9 := by simpa using h9.len
    exact hiBuilt k A0 n0 c0 E p q B9 m9 d9 l' W (hA.1.grows g) hok h9 hor hk hn (by omega))
  unfold GiveHB at CB
  have HB := hide hB
  have HA := hide hA
  clear hp hm0 hok hor hB hA CR hm
  go_enter Try.func47, Try.ntmps47
  go_upto_region 8 with (first | (go_at_call 77; refine (CM.out _ inferInstance).mono ?_; rintro e w' ⟨rfl, rfl⟩) | (go_at_call 68; refine (C1.out _).mono ?_; rintro e w' ⟨rfl, hg⟩; obtain ⟨x1, rfl⟩ := hg.later; clear hg))
  go_region_with (first
    | (go_at_call 78; refine (CRK.out _ GG).mono ?_; rintro e w' ⟨B9, m9, d9, rfl, h9, hg⟩; obtain ⟨x2, rfl⟩ := hg.later; have HR := hide h9; have HLM := hide (show l'.length = m9 by simpa using h9.len); clear hg h9)
    | (go_at_call 26; refine (CB.out _ _ _ _ GG (HR.out.grows GG)).mono ?_; rintro e w' ⟨bh, r, vs, rfl, hI, hrk, hh, hg⟩; obtain ⟨x3, rfl⟩ := hg.later; have HI := hide hI; have HK := hide hrk; have HH := hide hh; clear hI hrk hh hg))
  all_goals go_wp2_with fail
  all_goals
    have HG : Hid (Grows w x3.now) := hide GG
    have a1 : Arr x3.now b 134 [.int .i64 p, .int .i64 q, .slice B m d, .int .i64 ph, .int .i64 k, .slice A0 n0 c0, .pointer hpp, .int .i64 l1, .int .i64 l2, .int .i64 l3] := inferInstance
    have a2 := (a1.set 6 (.pointer (some ⟨bh, 0, none⟩))).set 3 (.int .i64 2)
    have ht : Touch (fun k => k = b) x3.now ((x3.now.setCell ⟨b, 6, none⟩ (.pointer (some ⟨bh, 0, none⟩))).setCell ⟨b, 3, none⟩ (.int .i64 2)) :=
      ((Touch.refl (fun k => k = b) x3.now).set (p := ⟨b, 6, none⟩) (.inl rfl) _).set (p := ⟨b, 3, none⟩) (.inl rfl) _
    simp only [List.set_cons_zero, List.set_cons_succ] at a2
    have HT := hide ht
    have HA1 := hide a1
    generalize (x3.now.setCell ⟨b, 6, none⟩ (.pointer (some ⟨bh, 0, none⟩))).setCell ⟨b, 3, none⟩ (.int .i64 2) = W at *
    clear ht a1 ha CB C1 CM CRK
    go_region_with fail
  all_goals go_wp2_with fail
  all_goals
    rw [show IntKind.i64.wrap ((l2 : Int) + 1) = ((l2 + 1 : Nat) : Int) by rw [IntWalk.i64_in _ (by omega)]; omega]
    have a3 := (a2.set 8 (.int .i64 ((l2 + 1 : Nat) : Int))).drew
    simp only [List.set_cons_zero, List.set_cons_succ] at a3
    have hT := (HT.out.set (p := ⟨b, 8, none⟩) (.inl rfl) (.int .i64 ((l2 + 1 : Nat) : Int))).grows ((Grows.refl _).drew)
    have hB := HB.out
    have hA := HA.out
    have hh := HH.out.touch HA1.out hT
    go_ret
    exact ⟨bh, r, vs, rfl, HI.out, by rw [HLM.out]; exact HK.out, hh, ⟨a3, ⟨(hB.1.grows HG.out).touch hT hB.2, hB.2⟩, (hA.1.grows HG.out).touch hT hA.2, hA.2⟩, (HG.out.touch (fun k => k = b)).trans hT⟩
end Go.Proofs.Yteodapefimlakaa
