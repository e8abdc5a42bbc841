/- Regions that draw their order: an operation that reads two values which hang on the world, and leaves a value that is known. -/
import Derived.Test.YteodapefimlakaaQContractBuilds06
import Derived.Test.YteodapefimlakaaQStateStale03
import Derived.Test.YteodapefimlakaaQContractBuilds09
import Derived.Test.YteodapefimlakaaQContractBuilds03
import Derived.Test.YteodapefimlakaaQContractBuilds00
import Derived.Test.YteodapefimlakaaQContractBuilds02
/- Contracts: a graph with one weight changed. -/
namespace Go.Proofs.Yteodapefimlakaa
open Go Go.RowKit
def chF (m : Nat) (e w : Int) : Int := if edgeB m e then (if wtB w then 0 else 2) else 8
def withF (N : Int) (E : List Edg) (e w : Int) : Int := if rightF N E = 0 then chF E.length e w else 1
def GiveGF (w : World) (f : Int) (P : Int → Option Addr → Nat → Nat → World → Prop) (e : Ending) (w' : World) : Prop := ∃ N A n c, e = .returned (.tuple #[.agg #[.int .i64 N, .slice A n c], .int .i64 f]) ∧ P N A n c w' ∧ Grows w w'
theorem es_at2 {E : List Edg} {k : Nat} (hk : k < E.length) : (esCells E)[k * 3 + 2]? = some (.int .u64 (ge E k).w) := by rw [esCells_at E k 2 hk (by omega)]; rfl
set_option maxRecDepth 20000 in
set_option maxHeartbeats 4000000 in
theorem gWith (N : Int) (A : Option Addr) (n c : Nat) (E : List Edg) (e x : Int) (w : World) (h : Rd w A 3 n (esCells E)) (hn : n ≤ 1000000) :
    Calls Try.prog 101 #[.agg #[.int .i64 N, .slice A n c], .int .i64 e, .int .u64 x] w (GiveGF w (withF N E e x) fun _ _ _ _ _ => True) := by
  have hl := h.elen
  have HC := hide (fun W (g : Grows w W) => gClone N A n c E W (h.grows g) hn)
  have C1 := fun W (g : Grows w W) => gRight N A n c E W (h.grows g) hn
  have C2 := hide (fun W => gEdge N e A n c W)
  have C3 := hide (fun W => calls_same (gWeight x W))
  have HV : Hid (withF N E e x = if rightF N E = 0 then (if edgeB n e then (if wtB x then 0 else 2) else 8) else 1) := by unfold withF chF; rw [hl]; rfl
  rw [HV.out]
  have HH := hide hl
  clear h HV hl
  by_cases hr : rightF N E = 0
  · rw [if_pos hr]
    rw [hr] at C1
    have H1 := hide C1
    clear C1 hr
    cases he : edgeB n e with
    | false =>
      rw [he] at C2
      clear he
      rw [if_neg (by simp)]
      go_enter Try.func101, Try.ntmps101
      go_wp2_with (first | (go_at_call 56; refine (H1.out _ GG).mono ?_; rintro e w' ⟨rfl, hg⟩; (first | obtain ⟨x, rfl⟩ := Grows.later2 hg | obtain ⟨x, rfl⟩ := Grows.later hg); clear hg) | (go_at_call 103; refine (C2.out _).mono ?_; rintro e w' ⟨rfl, hg⟩; (first | obtain ⟨x, rfl⟩ := Grows.later2 hg | obtain ⟨x, rfl⟩ := Grows.later hg); clear hg))
      refine bodyPost_ret (v := .tuple #[.agg #[.int .i64 0, .slice none 0 0], .int .i64 8]) (by simp (maxDischargeDepth := 6) [results, Try.results101, go_sem, *]) rfl ⟨_, _, _, _, rfl, trivial, GG⟩
    | true =>
      rw [if_pos rfl]
      rw [he] at C2
      have hek : 0 ≤ e ∧ e < n := of_decide_eq_true he
      clear he
      cases hx : wtB x with
      | false =>
        rw [hx] at C3
        clear hx
        rw [if_neg (by simp)]
        go_enter Try.func101, Try.ntmps101
        go_wp2_with (first | (go_at_call 56; refine (H1.out _ GG).mono ?_; rintro e w' ⟨rfl, hg⟩; (first | obtain ⟨x, rfl⟩ := Grows.later2 hg | obtain ⟨x, rfl⟩ := Grows.later hg); clear hg) | (go_at_call 103; refine (C2.out _).mono ?_; rintro e w' ⟨rfl, hg⟩; (first | obtain ⟨x, rfl⟩ := Grows.later2 hg | obtain ⟨x, rfl⟩ := Grows.later hg); clear hg) | (go_at_call 86; refine (C3.out _).mono ?_; rintro e w' ⟨rfl, hg⟩; (first | obtain ⟨x, rfl⟩ := Grows.later2 hg | obtain ⟨x, rfl⟩ := Grows.later hg); clear hg))
        refine bodyPost_ret (v := .tuple #[.agg #[.int .i64 0, .slice none 0 0], .int .i64 2]) (by simp (maxDischargeDepth := 6) [results, Try.results101, go_sem, *]) rfl ⟨_, _, _, _, rfl, trivial, GG⟩
      | true =>
        rw [hx] at C3
        clear hx
        rw [if_pos rfl]
        obtain ⟨k, rfl⟩ := Int.eq_ofNat_of_zero_le hek.1
        have hk : k < n := by omega
        clear hek
        go_enter Try.func101, Try.ntmps101
        go_wp2_with (first
          | (go_at_call 56; refine (H1.out _ GG).mono ?_; rintro e w' ⟨rfl, hg⟩; obtain ⟨x1, rfl⟩ := hg.later; clear hg)
          | (go_at_call 103; refine (C2.out _).mono ?_; rintro e w' ⟨rfl, hg⟩; obtain ⟨x2, rfl⟩ := hg.later; clear hg)
          | (go_at_call 86; refine (C3.out _).mono ?_; rintro e w' ⟨rfl, hg⟩; obtain ⟨x3, rfl⟩ := hg.later; clear hg)
          | (go_at_call 52; refine (HC.out _ GG).mono ?_; rintro e w' ⟨A1, c1, rfl, ho1, hg⟩; obtain ⟨x4, rfl⟩ := hg.later; obtain ⟨g, rfl, hgB, hlt, hM⟩ := ho1.atS (by rw [HH.out]; omega); have c5 := hM _ _ (es_at2 (k := k) (by rw [HH.out]; exact hk)); have hkl : k < E.length := (by rw [HH.out]; exact hk); have HO1 := hide ho1; have hgw : w.heap.size ≤ g := (Nat.le_trans (show Grows w x3.now from GG).size hgB); clear hg ho1 hM))
        refine bodyPost_ret (v := .tuple #[.agg #[.int .i64 N, .slice (some ⟨g, 0, none⟩) E.length c1], .int .i64 0]) (by simp (maxDischargeDepth := 6) [results, Try.results101, go_sem, *]) rfl ⟨_, _, _, _, rfl, trivial, GG⟩
  · rw [if_neg hr]
    have hr2 : (rightF N E == 0) = false := beq_eq_false_iff_ne.2 hr
    have H1 := hide C1
    clear C1 hr
    go_enter Try.func101, Try.ntmps101
    go_wp2_with (first | (go_at_call 56; refine (H1.out _ GG).mono ?_; rintro e w' ⟨rfl, hg⟩; (first | obtain ⟨x, rfl⟩ := Grows.later2 hg | obtain ⟨x, rfl⟩ := Grows.later hg); clear hg))
    refine bodyPost_ret (v := .tuple #[.agg #[.int .i64 0, .slice none 0 0], .int .i64 1]) (by simp (maxDischargeDepth := 6) [results, Try.results101, go_sem, *]) rfl ⟨_, _, _, _, rfl, trivial, GG⟩
end Go.Proofs.Yteodapefimlakaa

/- Plain: what changes of weights come to, one by one. -/
namespace Go.Proofs.Yteodapefimlakaa
open Go Go.RowKit
def chB (m : Nat) (c : Chg) : Bool := decide (chF m c.e c.w = 0)
theorem chB_spec {m : Nat} {c : Chg} (h : chB m c = true) : 0 ≤ c.e ∧ c.e < m ∧ 1 ≤ c.w ∧ c.w ≤ 4294967296 := by
  have h := of_decide_eq_true h
  unfold chF at h
  split at h
  · rename_i h1
    split at h
    · rename_i h2
      have := of_decide_eq_true h1
      have := of_decide_eq_true h2
      omega
    · omega
  · omega
def apE (E : List Edg) (L : List Chg) : Nat → List Edg
  | 0 => E
  | k + 1 => setW (apE E L k) (gc L k).e.toNat (gc L k).w
theorem apE_succ (E : List Edg) (L : List Chg) (k : Nat) : apE E L (k + 1) = setW (apE E L k) (gc L k).e.toNat (gc L k).w := rfl
theorem apE_len (E : List Edg) (L : List Chg) : ∀ k, (apE E L k).length = E.length
  | 0 => rfl
  | k + 1 => by rw [apE_succ, setW_len, apE_len E L k]
def bdK (m : Nat) (L : List Chg) : Nat := (L.takeWhile (chB m)).length
theorem bdK_le (m : Nat) (L : List Chg) : bdK m L ≤ L.length := (List.takeWhile_prefix _).length_le
theorem bdK_ok {m : Nat} {L : List Chg} {k : Nat} (hk : k < bdK m L) : chB m (gc L k) = true := by
  have hp := List.takeWhile_prefix (p := chB m) (l := L)
  have h1 : k < (L.takeWhile (chB m)).length := hk
  have h2 : gc L k = (L.takeWhile (chB m))[k] := by
    have := hp.getElem h1
    have h3 : k < L.length := Nat.lt_of_lt_of_le hk (bdK_le m L)
    simp [gc, h3, this]
  rw [h2]
  have := List.all_takeWhile (p := chB m) (l := L)
  exact List.all_eq_true.1 this _ (List.getElem_mem h1)
theorem bdK_at {m : Nat} : ∀ {L : List Chg} {k : Nat}, k < L.length → (∀ j, j < k → chB m (gc L j) = true) → chB m (gc L k) = false → bdK m L = k
  | c :: L, 0, _, _, h => by
    have h : chB m c = false := h
    unfold bdK
    rw [List.takeWhile_cons, h]; rfl
  | c :: L, k + 1, hk, hj, h => by
    have h0 : chB m c = true := hj 0 (by omega)
    have := bdK_at (m := m) (L := L) (k := k) (by simpa using hk) (fun j hjk => hj (j + 1) (by omega)) h
    unfold bdK at *
    rw [List.takeWhile_cons, h0]
    simpa using this
theorem bdK_all {m : Nat} : ∀ {L : List Chg}, (∀ j, j < L.length → chB m (gc L j) = true) → bdK m L = L.length
  | [], _ => rfl
  | c :: L, hj => by
    have h0 : chB m c = true := hj 0 (by simp)
    have := bdK_all (m := m) (L := L) (fun j hjk => hj (j + 1) (by simpa using hjk))
    unfold bdK at *
    rw [List.takeWhile_cons, h0]
    simpa using this
theorem right_set {N : Int} {E : List Edg} {e : Nat} {w : Int} (h : rightF N E = 0) (he : e < E.length) (hw : wtB w = true) : rightF N (setW E e w) = 0 := by
  unfold rightF at *
  rw [setW_len]
  split at h
  · omega
  · rename_i h1
    rw [if_neg h1]
    split at h
    · omega
    · rename_i h2
      rw [if_neg h2]
      split at h
      · omega
      · rename_i h3
        split at h
        · omega
        · rename_i h4
          have key : ∀ (p : Edg → Bool), (E.any p = false) → (p ⟨(ge E e).f, (ge E e).t, w⟩ = false) → (setW E e w).any p = false := by
            intro p hp hq
            rw [List.any_eq_false] at *
            intro x hx
            unfold setW at hx
            rcases List.mem_or_eq_of_mem_set hx with hx | rfl
            · exact hp x hx
            · simpa using hq
          have hmem : ge E e ∈ E := by
            have : ge E e = E[e] := by simp [ge, he]
            rw [this]; exact List.getElem_mem he
          have h3' : E.any (looseB N) = false := by simpa using h3
          have h4' : E.any heavyB = false := by simpa using h4
          have k1 := key (looseB N) h3' (by
            have := List.any_eq_false.1 h3' _ hmem
            unfold looseB at this ⊢
            simpa using this)
          have k2 := key heavyB h4' (by unfold heavyB; rw [hw]; rfl)
          rw [k1, k2]
          simp
theorem ok_wt {m : Nat} {c : Chg} (h : chB m c = true) : wtB c.w = true := by
  have := chB_spec h
  exact decide_eq_true (by omega)
theorem right_ap {N : Int} {E : List Edg} {L : List Chg} (h : rightF N E = 0) : ∀ k, (∀ j, j < k → chB E.length (gc L j) = true) → rightF N (apE E L k) = 0
  | 0, _ => h
  | k + 1, hj => by
    have hc := hj k (by omega)
    have := chB_spec hc
    exact right_set (right_ap h k fun j hjk => hj j (by omega)) (by rw [apE_len]; omega) (ok_wt hc)
def apOk (N : Int) (E : List Edg) (L : List Chg) : Bool := decide (rightF N E = 0) && decide (bdK E.length L = L.length)
def apN (N : Int) (E : List Edg) (L : List Chg) : Int := if apOk N E L then N else 0
def apL (N : Int) (E : List Edg) (L : List Chg) : List Edg := if apOk N E L then apE E L L.length else []
def apI (N : Int) (E : List Edg) (L : List Chg) : Int := if rightF N E = 0 then (if bdK E.length L < L.length then (bdK E.length L : Int) else 0) else 0
def apF (N : Int) (E : List Edg) (L : List Chg) : Int := if rightF N E = 0 then (if bdK E.length L < L.length then chF E.length (gc L (bdK E.length L)).e (gc L (bdK E.length L)).w else 0) else 1
def GiveA (w : World) (N : Int) (E : List Edg) (i f : Int) (e : Ending) (w' : World) : Prop := ∃ A c, e = .returned (.tuple #[.agg #[.int .i64 N, .slice A E.length c], .int .i64 i, .int .i64 f]) ∧ Rd w' A 3 E.length (esCells E) ∧ Grows w w'
end Go.Proofs.Yteodapefimlakaa

/- Contract: any graph with any changes, by the program. -/
namespace Go.Proofs.Yteodapefimlakaa
open Go Go.RowKit
theorem chB_at {m : Nat} {c : Chg} : chB m c = true ↔ chF m c.e c.w = 0 := ⟨fun h => of_decide_eq_true h, fun h => decide_eq_true h⟩
theorem ap_bad {N : Int} {E : List Edg} {L : List Chg} {k : Nat} (hr : rightF N E = 0) (hk : k < L.length) (hj : ∀ j, j < k → chB E.length (gc L j) = true) (h : chB E.length (gc L k) = false) :
    apN N E L = 0 ∧ apL N E L = [] ∧ apI N E L = k ∧ apF N E L = chF E.length (gc L k).e (gc L k).w := by
  have hb := bdK_at hk hj h
  have ho : apOk N E L = false := by unfold apOk; rw [hb, decide_eq_false (show ¬ k = L.length by omega), Bool.and_false]
  unfold apN apL apI apF
  rw [ho, hb, if_pos hr, if_pos hr, if_pos hk, if_pos hk]
  exact ⟨rfl, rfl, rfl, rfl⟩
theorem ap_all {N : Int} {E : List Edg} {L : List Chg} (hr : rightF N E = 0) (hj : ∀ j, j < L.length → chB E.length (gc L j) = true) :
    apN N E L = N ∧ apL N E L = apE E L L.length ∧ apI N E L = 0 ∧ apF N E L = 0 := by
  have hb := bdK_all hj
  have ho : apOk N E L = true := by unfold apOk; rw [hb, decide_eq_true hr, decide_eq_true rfl]; rfl
  unfold apN apL apI apF
  rw [ho, hb, if_pos hr, if_pos hr, if_neg (Nat.lt_irrefl _), if_neg (Nat.lt_irrefl _)]
  exact ⟨rfl, rfl, rfl, rfl⟩
theorem ap_not {N : Int} {E : List Edg} {L : List Chg} (hr : ¬ rightF N E = 0) : apN N E L = 0 ∧ apL N E L = [] ∧ apI N E L = 0 ∧ apF N E L = 1 := by
  have ho : apOk N E L = false := by unfold apOk; rw [decide_eq_false hr, Bool.false_and]
  unfold apN apL apI apF
  rw [ho, if_neg hr, if_neg hr]
  exact ⟨rfl, rfl, rfl, rfl⟩
theorem Rd.none0 (w : World) (size : Nat) : Rd w none size 0 [] := ⟨by simp, fun h => absurd h (by simp)⟩
def GiveAF (w : World) (N : Int) (E : List Edg) (i f : Int) (e : Ending) (w' : World) : Prop := ∃ A c, e = .returned (.tuple #[.agg #[.int .i64 N, .slice A E.length c], .int .i64 i, .int .i64 f]) ∧ Rd w' A 3 E.length (esCells E) ∧ (∀ b off, A = some ⟨b, off, none⟩ → 0 < E.length → w.heap.size ≤ b) ∧ Grows w w'
set_option maxRecDepth 20000 in
set_option maxHeartbeats 4000000 in
theorem chApplyF (N : Int) (A : Option Addr) (n c : Nat) (E : List Edg) (B : Option Addr) (m d : Nat) (L : List Chg) (w : World) (h : Rd w A 3 n (esCells E)) (hn : n ≤ 1000000) (hc : Rd w B 2 m (csCells L)) (hm : m ≤ 1000000) :
    Calls Try.prog 71 #[.agg #[.int .i64 N, .slice A n c], .slice B m d] w (GiveAF w (apN N E L) (apL N E L) (apI N E L) (apF N E L)) := by
  have hl := h.elen
  have hlm := hc.clen
  have HC := hide (fun W (g : Grows w W) => gClone N A n c E W (h.grows g) hn)
  have C1 := fun W (g : Grows w W) => gRight N A n c E W (h.grows g) hn
  by_cases hr : rightF N E = 0
  · rw [hr] at C1
    have H1 := hide C1
    have HAP := hide (fun k (hj : ∀ j, j < k → chB n (gc L j) = true) => right_ap hr k (by rw [hl]; exact hj))
    have HBad := hide (fun k (hk : k < m) (hj : ∀ j, j < k → chB n (gc L j) = true) (h : chB n (gc L k) = false) => ap_bad (N := N) hr (L := L) (k := k) (by omega) (by rw [hl]; exact hj) (by rw [hl]; exact h))
    have HAll := hide (fun (hj : ∀ j, j < m → chB n (gc L j) = true) => ap_all (N := N) hr (L := L) (by rw [hl, hlm]; exact hj))
    have HC2 := hide hc
    have HLe := hide (fun k => (apE_len E L k).trans hl)
    have HLm := hide hlm
    have HL := hide hl
    clear C1 hr h hc hl hlm
    go_enter Try.func71, Try.ntmps71
    go_wp2_with fail
    go_step3
    go_wp2_with (first
      | (go_at_call 56; refine (H1.out _ GG).mono ?_; rintro e w' ⟨rfl, hg⟩; obtain ⟨x1, rfl⟩ := hg.later; clear hg)
      | (go_at_call 52; refine (HC.out _ GG).mono ?_; rintro e w' ⟨A1, c1, rfl, ho1, hg⟩; obtain ⟨x2, rfl⟩ := hg.later; have HO1 := hide ho1; clear hg ho1))
    go_step3
    go_wp2_with fail
    have HA1 : Hid (0 < n → ∃ g, A1 = some ⟨g, 0, none⟩ ∧ x1.now.heap.size ≤ g ∧ g < x2.now.heap.size) := fun h0 => by
      obtain ⟨g, e, h1, h2, _⟩ := HO1.out.atS (by rw [HL.out]; exact h0)
      exact ⟨g, e, h1, h2⟩
    have hgx := x1.size
    simp only [World.size_alloc] at hgx
    have hgx2 := x2.size
    go_loopw [20] (fun i wr => ∃ k : Nat, k ≤ m ∧ i = .int .i64 (k : Int) ∧ ∃ y : Later x1.now, wr = y.now ∧ Own y.now x1.now.heap.size 96 3 A1 E.length c1 (esCells (apE E L k)) ∧ Holds y.now ⟨x2.now.heap.size, 0, none⟩ (.int .i64 N) ∧ Holds y.now ⟨x2.now.heap.size, 1, none⟩ (.slice A1 E.length c1) ∧ Hid (∀ j, j < k → chB n (gc L j) = true)) (fun i _ => m - (Go.RowKit.intOf i).toNat)
    case atStart => exact ⟨0, by omega, by go_num, ⟨x2.now.alloc _, GG⟩, rfl, HO1.out.new _, @Mine.holds _ _ _ (Mine.new0 _ _ _ _), @Mine.holds _ _ _ (Mine.new1 _ _ _ _ _), fun j h => by omega⟩
    case round =>
      obtain ⟨k, hk, rfl, y, rfl, hown, b0, b1, HJ⟩ := hrel
      have HO := hide hown
      clear hown
      by_cases hend : m ≤ k
      · have hkm : k = m := by omega
        subst hkm
        have HV := hide (HAll.out HJ.out)
        go_wp2
        rw [Exit.noGoto_ret]
        refine bodyPost_ret (v := .tuple #[.agg #[.int .i64 N, .slice A1 E.length c1], .int .i64 0, .int .i64 0]) (by simp (maxDischargeDepth := 6) [results, Try.results71, go_sem, *]) rfl ?_
        obtain ⟨v1, v2, v3, v4⟩ := HV.out
        rw [v1, v2, v3, v4, HLm.out]
        refine ⟨A1, c1, by rw [apE_len], ?_, fun b off e h0 => by obtain ⟨g, e', h1, _⟩ := HA1.out (by rw [apE_len, HL.out] at h0; exact h0); rw [e'] at e; injection e with e; injection e with e1 _; omega, GG⟩
        rw [apE_len]
        exact ((HO.out.low (by show w.heap.size + 1 < _; omega) _).low (by show w.heap.size + 1 < _; omega) _).rd
      · obtain ⟨b, off, rfl, hcc⟩ := HC2.out.chgsH (by omega)
        obtain ⟨c2, c3⟩ := hcc k (by omega)
        clear hcc
        have D1 := fun (W : World) (g : Grows y.now W) => gWith N A1 E.length c1 (apE E L k) (gc L k).e (gc L k).w W (HO.out.rd.grows g) (by rw [HL.out]; omega)
        have hwf : withF N (apE E L k) (gc L k).e (gc L k).w = chF n (gc L k).e (gc L k).w := by unfold withF; rw [if_pos (HAP.out k HJ.out), HLe.out k]
        rw [hwf] at D1
        cases hb : chB n (gc L k) with
        | false =>
          have HV := hide (HBad.out k (by omega) HJ.out hb)
          have hf : (chF n (gc L k).e (gc L k).w == 0) = false := beq_eq_false_iff_ne.2 (fun e => by rw [chB_at.2 e] at hb; cases hb)
          have HFv : Hid (chF E.length (gc L k).e (gc L k).w = chF n (gc L k).e (gc L k).w) := by rw [HL.out]; rfl
          have K1 := hide D1
          clear D1 hwf hb
          generalize chF n (gc L k).e (gc L k).w = f at *
          generalize (gc L k).e = e at *
          generalize (gc L k).w = x at *
          go_wp2_with (go_at_call 101; refine (K1.out _ GG).mono ?_; rintro e w' ⟨N4, A4, n4, c4, rfl, _, hg⟩; obtain ⟨x4, rfl⟩ := hg.later; clear hg)
          rw [Exit.noGoto_ret]
          refine bodyPost_ret (v := .tuple #[.agg #[.int .i64 0, .slice none 0 0], .int .i64 (k : Int), .int .i64 f]) (by simp (maxDischargeDepth := 6) [results, Try.results71, go_sem, *]) rfl ?_
          obtain ⟨v1, v2, v3, v4⟩ := HV.out
          rw [v1, v2, v3, v4, HFv.out]
          exact ⟨none, 0, rfl, Rd.none0 _ _, (fun _ _ h => (by cases h)), GG⟩
        | true =>
          obtain ⟨e1, e2, _, _⟩ := chB_spec hb
          rw [chB_at.1 hb] at D1
          have K1 := hide D1
          have HJ2 : Hid (∀ j, j < k + 1 → chB n (gc L j) = true) := fun j hj => by
            by_cases e : j = k
            · rw [e]; exact hb
            · exact HJ.out j (by omega)
          clear D1 hwf hb
          obtain ⟨g, rfl, hg1, hg2⟩ := HA1.out (by omega)
          have HN := hide (apE_succ E L k)
          have HLk := hide (HLe.out k)
          have HS := hide (setW_same (apE E L k))
          generalize apE E L k = Ek at *
          generalize (gc L k).w = x at *
          obtain ⟨e, he⟩ := Int.eq_ofNat_of_zero_le e1
          rw [he] at c2 e2 K1 HN
          rw [Int.toNat_natCast] at HN
          clear he
          have hen : e < E.length := by rw [HL.out]; omega
          obtain ⟨g', e', _, _, hM⟩ := HO.out.atS (by omega)
          obtain rfl : g = g' := by simpa using e'
          have c5 := hM _ _ (es_at2 (k := e) (by rw [HLk.out]; omega))
          clear hM e'
          by_cases hw : (ge Ek e).w = x
          · have hd : ((ge Ek e).w == x) = true := beq_iff_eq.2 hw
            have HN2 : Hid (apE E L (k + 1) = Ek) := by show _ = _; rw [HN.out, ← hw]; exact HS.out e
            clear hw
            generalize (ge Ek e).w = xo at *
            go_wp2_with (go_at_call 101; refine (K1.out _ GG).mono ?_; rintro e w' ⟨N4, A4, n4, c4, rfl, _, hg⟩; obtain ⟨x4, rfl⟩ := hg.later; clear hg)
            ((first | refine wp_region_gen (by kernel_rfl) (by kernel_rfl) ?_); (repeat' (first | (refine gLex_val0 rfl (by kernel_rfl) (fun K hK => ?_); (go_simp; (try (simp only [↓IntWalk.iteOmega]; try go_simp)); (try simp (disch := omega) only [IntWalk.i64_in]); (try simp (disch := omega) only [IntWalk.u64_in]); first | (refine hK _ ?_; clear hK K) | (apply Exists.intro; refine ⟨fun x => ?_, hK _ ?_⟩; (first | fail); clear hK K))) | (refine gLex_undef rfl rfl rfl (by kernel_rfl) (fun K hK => ?_); go_simp; refine hK _ ?_; clear hK K) | (refine gLex_ask rfl rfl rfl ?_; first | (apply gAsk_yes; kernel_rfl; intro K hK; (go_simp; (try (simp only [↓IntWalk.iteOmega]; try go_simp)); (try simp (disch := omega) only [IntWalk.i64_in]); (try simp (disch := omega) only [IntWalk.u64_in]); first | (refine hK _ ?_; clear hK K) | (apply Exists.intro; refine ⟨fun x => ?_, hK _ ?_⟩; (first | fail); clear hK K))) | ((first | apply gAsk_no1 | apply gAsk_no2); kernel_rfl; intro K hK; simp [go_sem]; refine hK _ ?_; clear hK K) | (apply gAsk_part; kernel_rfl; all_goals (intro h K hK; (try simp only [Bool.not_true] at h); (try simp only [Bool.not_false] at h); (try simp only [decide_eq_true_eq] at h); (try simp only [decide_eq_false_iff_not] at h); first | (exfalso; first | contradiction | omega) | (go_simp; (try (simp only [↓IntWalk.iteOmega]; try go_simp)); (try simp (disch := omega) only [IntWalk.i64_in]); (try simp (disch := omega) only [IntWalk.u64_in]); first | (refine hK _ ?_; clear hK K) | (apply Exists.intro; refine ⟨fun x => ?_, hK _ ?_⟩; (first | fail); clear hK K))))))); all_goals ((apply gLex_end); intro x5))
            go_wp2
            exact ⟨⟨k + 1, by omega, by go_num, ⟨x5.now, GG⟩, rfl, by rw [HN2.out]; exact (show Own x5.now _ _ _ _ _ _ _ from HO.out.grows GG), (inferInstance : Holds x5.now _ _), (inferInstance : Holds x5.now _ _), HJ2⟩, by simp [Go.RowKit.intOf]; omega⟩
          · have hd : ((ge Ek e).w == x) = false := beq_eq_false_iff_ne.2 hw
            clear hw
            generalize (ge Ek e).w = xo at *
            go_wp2_with (go_at_call 101; refine (K1.out _ GG).mono ?_; rintro e w' ⟨N4, A4, n4, c4, rfl, _, hg⟩; obtain ⟨x4, rfl⟩ := hg.later; clear hg)
            ((first | refine wp_region_gen (by kernel_rfl) (by kernel_rfl) ?_); (repeat' (first | (refine gLex_val0 rfl (by kernel_rfl) (fun K hK => ?_); (go_simp; (try (simp only [↓IntWalk.iteOmega]; try go_simp)); (try simp (disch := omega) only [IntWalk.i64_in]); (try simp (disch := omega) only [IntWalk.u64_in]); first | (refine hK _ ?_; clear hK K) | (apply Exists.intro; refine ⟨fun x => ?_, hK _ ?_⟩; (first | fail); clear hK K))) | (refine gLex_undef rfl rfl rfl (by kernel_rfl) (fun K hK => ?_); go_simp; refine hK _ ?_; clear hK K) | (refine gLex_ask rfl rfl rfl ?_; first | (apply gAsk_yes; kernel_rfl; intro K hK; (go_simp; (try (simp only [↓IntWalk.iteOmega]; try go_simp)); (try simp (disch := omega) only [IntWalk.i64_in]); (try simp (disch := omega) only [IntWalk.u64_in]); first | (refine hK _ ?_; clear hK K) | (apply Exists.intro; refine ⟨fun x => ?_, hK _ ?_⟩; (first | fail); clear hK K))) | ((first | apply gAsk_no1 | apply gAsk_no2); kernel_rfl; intro K hK; simp [go_sem]; refine hK _ ?_; clear hK K) | (apply gAsk_part; kernel_rfl; all_goals (intro h K hK; (try simp only [Bool.not_true] at h); (try simp only [Bool.not_false] at h); (try simp only [decide_eq_true_eq] at h); (try simp only [decide_eq_false_iff_not] at h); first | (exfalso; first | contradiction | omega) | (go_simp; (try (simp only [↓IntWalk.iteOmega]; try go_simp)); (try simp (disch := omega) only [IntWalk.i64_in]); (try simp (disch := omega) only [IntWalk.u64_in]); first | (refine hK _ ?_; clear hK K) | (apply Exists.intro; refine ⟨fun x => ?_, hK _ ?_⟩; (first | fail); clear hK K))))))); all_goals ((apply gLex_end); intro x5))
            go_wp2
            obtain ⟨z, ez, hoz⟩ := (show Own x5.now _ _ _ _ _ _ _ from HO.out.grows GG).putS (w0 := x1.now) (j := e * 3 + 2) GG (by omega) (.int .u64 x)
            rw [esCells_setW] at hoz
            refine ⟨⟨k + 1, by omega, by go_num, z, ez, by rw [HN.out]; exact hoz, ?_, ?_, HJ2⟩, by simp [Go.RowKit.intOf]; omega⟩
            · rw [← ez]
              exact (inferInstance : Holds x5.now _ _).other _ (by show g ≠ x2.now.heap.size; omega)
            · rw [← ez]
              exact (inferInstance : Holds x5.now _ _).other _ (by show g ≠ x2.now.heap.size; omega)
  · have HV := hide (ap_not (L := L) hr)
    have hr2 : (rightF N E == 0) = false := beq_eq_false_iff_ne.2 hr
    have H1 := hide C1
    clear C1 hr h hc
    go_enter Try.func71, Try.ntmps71
    go_wp2_with fail
    go_step3
    go_wp2_with (first | (go_at_call 56; refine (H1.out _ GG).mono ?_; rintro e w' ⟨rfl, hg⟩; (first | obtain ⟨x, rfl⟩ := Grows.later2 hg | obtain ⟨x, rfl⟩ := Grows.later hg); clear hg))
    rw [Exit.noGoto_ret]
    refine bodyPost_ret (v := .tuple #[.agg #[.int .i64 0, .slice none 0 0], .int .i64 0, .int .i64 1]) (by simp (maxDischargeDepth := 6) [results, Try.results71, go_sem, *]) rfl ?_
    obtain ⟨v1, v2, v3, v4⟩ := HV.out
    rw [v1, v2, v3, v4]
    exact ⟨none, 0, rfl, Rd.none0 _ _, (fun _ _ h => (by cases h)), GG⟩
theorem chApply (N : Int) (A : Option Addr) (n c : Nat) (E : List Edg) (B : Option Addr) (m d : Nat) (L : List Chg) (w : World) (h : Rd w A 3 n (esCells E)) (hn : n ≤ 1000000) (hc : Rd w B 2 m (csCells L)) (hm : m ≤ 1000000) :
    Calls Try.prog 71 #[.agg #[.int .i64 N, .slice A n c], .slice B m d] w (GiveA w (apN N E L) (apL N E L) (apI N E L) (apF N E L)) :=
  (chApplyF N A n c E B m d L w h hn hc hm).mono fun _ _ ⟨A, c, h1, h2, _, h3⟩ => ⟨A, c, h1, h2, h3⟩
end Go.Proofs.Yteodapefimlakaa

/- A session's graph: a weight that is set. -/
namespace Go.Proofs.Yteodapefimlakaa
open Go Go.RowKit
attribute [local go_sem] Oper.semAt_some
theorem ap_one_bad {N : Int} {E : List Edg} {e v : Int} (hr : rightF N E = 0) (h : chF E.length e v ≠ 0) : apN N E [⟨e, v⟩] = 0 ∧ apL N E [⟨e, v⟩] = [] ∧ apI N E [⟨e, v⟩] = 0 ∧ apF N E [⟨e, v⟩] = chF E.length e v :=
  ap_bad (k := 0) hr (by simp) (fun j hj => by omega) (decide_eq_false h)
theorem ap_one {N : Int} {E : List Edg} {e v : Int} (hr : rightF N E = 0) (h : chF E.length e v = 0) : apN N E [⟨e, v⟩] = N ∧ apL N E [⟨e, v⟩] = setW E e.toNat v ∧ apI N E [⟨e, v⟩] = 0 ∧ apF N E [⟨e, v⟩] = 0 :=
  ap_all (L := [⟨e, v⟩]) hr (fun j hj => by
    obtain rfl : j = 0 := by simp at hj; omega
    exact decide_eq_true h)
set_option maxRecDepth 20000 in
set_option maxHeartbeats 4000000 in
theorem seSetBad (b : Nat) (s : StV) (l : List Int) (E : List Edg) (e v : Int) (w : World) (hs : StAt w b s l E) (hp : 1 ≤ s.ph ∧ s.ph ≤ 3) (hn : s.n ≤ 1000000) (hok : rightF s.N E = 0) (hbad : chF E.length e v ≠ 0) :
    Calls Try.prog 49 #[.pointer (some ⟨b, 0, none⟩), .int .i64 e, .int .u64 v] w fun r w' => r = .returned (.int .i64 (chF E.length e v)) ∧ Grows w w' := by
  obtain ⟨hops, settles, B, m, d, ph, N0, A0, n0, c0, hpp, l1, l2, l3⟩ := s
  obtain ⟨ha, _, hA⟩ := hs
  unfold StV.cells at ha
  dsimp only at ha hp hA hok hn
  have hm0 : mayF ph 1 = 0 := by rcases (by omega : ph = 1 ∨ ph = 2 ∨ ph = 3) with rfl | rfl | rfl <;> decide
  have CM := hide (fun (W : World) (h : Holds W ⟨b, 3, none⟩ (.int .i64 ph)) => seMay b ph 1 W h (by omega))
  rw [hm0] at CM
  obtain ⟨p1, p2, p3, p4⟩ := ap_one_bad hok hbad
  have C1 := hide (fun (g : Nat) (W : World) (h : Grows w W) (h2 : Rd W (some ⟨g, 0, none⟩) 2 1 (csCells [⟨e, v⟩])) => chApply N0 A0 n0 c0 E (some ⟨g, 0, none⟩) 1 1 [⟨e, v⟩] W (hA.1.grows h) hn h2 (by omega))
  rw [p1, p2, p3, p4] at C1
  unfold GiveA at C1
  have b1 : (chF E.length e v == (0 : Int)) = false := by simpa using hbad
  generalize chF E.length e v = f at *
  clear hA hp hm0 hok hbad p1 p2 p3 p4
  go_enter Try.func49, Try.ntmps49
  go_wp2_with (go_at_call 77; refine (CM.out _ inferInstance).mono ?_; rintro e w' ⟨rfl, rfl⟩)
  have R2 := Rd.made (w := w) (t := 126) (n := 1) (size := 2) [.int .i64 e, .int .u64 v] rfl
  have HG : Hid (Grows w (w.alloc (.cells #[.int .i64 e, .int .u64 v] 126))) := hide ((Grows.refl _).new _)
  refine (C1.out _ _ HG.out R2).mono ?_
  rintro e' w' ⟨A9, c9, rfl, _, hg⟩
  obtain ⟨x1, rfl⟩ := hg.later
  clear hg R2
  go_wp2_with fail
  go_ret
  exact ⟨rfl, GG⟩
def GiveSS (w : World) (b : Nat) (s : StV) (l : List Int) (E : List Edg) (e v : Int) (r : Ending) (w' : World) : Prop :=
  ∃ A c, r = .returned (.int .i64 0) ∧ StAt w' b ⟨s.hops, s.settles, s.B, s.m, s.d, if s.ph = 2 then 3 else s.ph, s.N, A, s.n, c, s.hp, s.l1, s.l2, s.l3 + 1⟩ l (setW E e.toNat v) ∧ Touch (fun k => k = b) w w'
set_option maxRecDepth 20000 in
set_option maxHeartbeats 4000000 in
theorem seSet (b : Nat) (s : StV) (l : List Int) (E : List Edg) (e v : Int) (w : World) (hs : StAt w b s l E) (hp : 1 ≤ s.ph ∧ s.ph ≤ 3) (hl3 : s.l3 ≤ 1000000) (hn : s.n ≤ 1000000) (hok : rightF s.N E = 0) (hgood : chF E.length e v = 0) :
    Calls Try.prog 49 #[.pointer (some ⟨b, 0, none⟩), .int .i64 e, .int .u64 v] w (GiveSS w b s l E e v) := by
  obtain ⟨hops, settles, B, m, d, ph, N0, A0, n0, c0, hpp, l1, l2, l3⟩ := s
  obtain ⟨ha, hB, hA⟩ := hs
  have hbl : b < w.heap.size := ha.lt
  unfold StV.cells at ha
  dsimp only at ha hp hA hB hok hn hl3
  have hm0 : mayF ph 1 = 0 := by rcases (by omega : ph = 1 ∨ ph = 2 ∨ ph = 3) with rfl | rfl | rfl <;> decide
  have CM := hide (fun (W : World) (h : Holds W ⟨b, 3, none⟩ (.int .i64 ph)) => seMay b ph 1 W h (by omega))
  rw [hm0] at CM
  obtain ⟨p1, p2, p3, p4⟩ := ap_one hok hgood
  have hel : E.length = n0 := hA.1.elen
  have hsl : (setW E e.toNat v).length = n0 := by rw [setW_len]; exact hel
  have C1 := hide (fun (g : Nat) (W : World) (h : Grows w W) (h2 : Rd W (some ⟨g, 0, none⟩) 2 1 (csCells [⟨e, v⟩])) => chApplyF N0 A0 n0 c0 E (some ⟨g, 0, none⟩) 1 1 [⟨e, v⟩] W (hA.1.grows h) hn h2 (by omega))
  rw [p1, p2, p3, p4] at C1
  unfold GiveAF at C1
  rw [hsl] at C1
  have hn0 : 0 < n0 := by
    unfold chF edgeB at hgood
    rw [hel] at hgood
    split at hgood
    · rename_i h1
      simp at h1
      omega
    · cases hgood
  have HB := hide hB
  clear hA hm0 hok hgood p1 p2 p3 p4 hel hB
  go_enter Try.func49, Try.ntmps49
  go_wp2_with (go_at_call 77; refine (CM.out _ inferInstance).mono ?_; rintro e w' ⟨rfl, rfl⟩)
  have R2 := Rd.made (w := w) (t := 126) (n := 1) (size := 2) [.int .i64 e, .int .u64 v] rfl
  have HG : Hid (Grows w (w.alloc (.cells #[.int .i64 e, .int .u64 v] 126))) := hide ((Grows.refl _).new _)
  refine (C1.out _ _ HG.out R2).mono ?_
  rintro e' w' ⟨A9, c9, rfl, h9, hf9, hg⟩
  obtain ⟨x1, rfl⟩ := hg.later
  have H9 := hide h9
  have HF := hide hf9
  clear hg R2 h9 hf9
  go_upto_region 7 with fail
  obtain ⟨bb, off, rfl, _⟩ := H9.out.2 hn0 (by omega)
  have hbb : bb ≠ b := by
    have h1 := HF.out bb off rfl hn0
    simp at h1
    omega
  have HG4 : Hid (Grows w (x1.now.alloc (.cells #[.int .i64 N0, .slice (some ⟨bb, off, none⟩) n0 c9] 24))) := hide GG
  have a0 := ha.grow HG4.out
  have H10 : Hid (Rd (x1.now.alloc (.cells #[.int .i64 N0, .slice (some ⟨bb, off, none⟩) n0 c9] 24)) (some ⟨bb, off, none⟩) 3 n0 (esCells (setW E e.toNat v))) := hide (H9.out.grows ((Grows.refl _).new _))
  have ag := Arr.make x1.now [.int .i64 N0, .slice (some ⟨bb, off, none⟩) n0 c9] 24
  have hne : x1.now.heap.size ≠ b := fun h => by have := ha.lt; have := x1.size; simp at this; omega
  generalize x1.now.alloc (.cells #[.int .i64 N0, .slice (some ⟨bb, off, none⟩) n0 c9] 24) = W at *
  generalize x1.now.heap.size = b5 at *
  clear H9 HF HG C1 CM ha
  have a2 := (a0.set 4 (.int .i64 N0)).set 5 (.slice (some ⟨bb, off, none⟩) n0 c9)
  have ht : Touch (fun k => k = b) W ((W.setCell ⟨b, 4, none⟩ (.int .i64 N0)).setCell ⟨b, 5, none⟩ (.slice (some ⟨bb, off, none⟩) n0 c9)) :=
    ((Touch.refl (fun k => k = b) W).set (p := ⟨b, 4, none⟩) (.inl rfl) _).set (p := ⟨b, 5, none⟩) (.inl rfl) _
  simp only [List.set_cons_zero, List.set_cons_succ] at a2
  have HT := hide ht
  clear ht
  go_upto_region 8 with fail
  generalize (W.setCell ⟨b, 4, none⟩ (.int .i64 N0)).setCell ⟨b, 5, none⟩ (.slice (some ⟨bb, off, none⟩) n0 c9) = W5 at *
  have HB2 := hide (HB.out.1.grows HG4.out)
  have hB2 := HB.out.2
  clear a0 ag hne HB
  by_cases h2 : ph = 2
  · subst h2
    have a3 := a2.set 3 (.int .i64 3)
    have ht : Touch (fun k => k = b) W (W5.setCell ⟨b, 3, none⟩ (.int .i64 3)) := HT.out.set (p := ⟨b, 3, none⟩) (.inl rfl) _
    simp only [List.set_cons_zero, List.set_cons_succ] at a3
    have HT3 := hide ht
    clear ht HT
    go_upto_region 10 with fail
    generalize W5.setCell ⟨b, 3, none⟩ (.int .i64 3) = W6 at *
    clear a2
    go_region_with fail
    all_goals go_wp2_with fail
    rw [show IntKind.i64.wrap ((l3 : Int) + 1) = ((l3 + 1 : Nat) : Int) by rw [IntWalk.i64_in _ (by omega)]; omega]
    have a4 := (a3.set 9 (.int .i64 ((l3 + 1 : Nat) : Int))).drew
    simp only [List.set_cons_zero, List.set_cons_succ] at a4
    have hT := (HT3.out.set (p := ⟨b, 9, none⟩) (.inl rfl) (.int .i64 ((l3 + 1 : Nat) : Int))).grows ((Grows.refl _).drew)
    have hB3 := HB2.out.touch hT hB2
    have h10 := H10.out.touch hT (fun p hp => by injection hp with hp; subst hp; exact hbb)
    refine bodyPost_ret (v := .int .i64 0) (by simp [results, Try.results49, go_sem]) rfl ?_
    unfold GiveSS StAt StV.cells
    exact ⟨some ⟨bb, off, none⟩, c9, rfl, ⟨by rw [if_pos rfl]; exact a4, ⟨hB3, hB2⟩, h10, fun p hp => by injection hp with hp; subst hp; exact hbb⟩, (HG4.out.touch (fun k => k = b)).trans hT⟩
  · have H2 := hide h2
    have b1 : (ph == (2 : Int)) = false := by simpa using h2
    go_upto_region 10 with fail
    clear h2 b1
    go_region_with fail
    all_goals go_wp2_with fail
    rw [show IntKind.i64.wrap ((l3 : Int) + 1) = ((l3 + 1 : Nat) : Int) by rw [IntWalk.i64_in _ (by omega)]; omega]
    have a4 := (a2.set 9 (.int .i64 ((l3 + 1 : Nat) : Int))).drew
    simp only [List.set_cons_zero, List.set_cons_succ] at a4
    have hT := (HT.out.set (p := ⟨b, 9, none⟩) (.inl rfl) (.int .i64 ((l3 + 1 : Nat) : Int))).grows ((Grows.refl _).drew)
    have hB3 := HB2.out.touch hT hB2
    have h10 := H10.out.touch hT (fun p hp => by injection hp with hp; subst hp; exact hbb)
    refine bodyPost_ret (v := .int .i64 0) (by simp [results, Try.results49, go_sem]) rfl ?_
    unfold GiveSS StAt StV.cells
    exact ⟨some ⟨bb, off, none⟩, c9, rfl, ⟨by rw [if_neg H2.out]; exact a4, ⟨hB3, hB2⟩, h10, fun p hp => by injection hp with hp; subst hp; exact hbb⟩, (HG4.out.touch (fun k => k = b)).trans hT⟩
end Go.Proofs.Yteodapefimlakaa

/- Regions that draw their order: an operation whose value hangs on the world (guarded or not), and one that reads such a value. -/
namespace Go.Proofs.Yteodapefimlakaa
open Go Go.RowKit
section
variable {P : Program} {w0 : World} {ops : Array Oper} {Q : Act → Env → Prop} {a : Act} {G : Env} {o : Oper} {rest : List Oper}
theorem gLex_propW {t : Tmp} (hw : Region.wanted o (yielded ops a.tmps) = true) (hp : plainB ops o G = true) (hd : o.dst = some t) (hlt : t < a.tmps.size)
    (p : Pr) (hl : Lasts p) (hr : ∀ x : Later w0, runsTo P (fun u w' => Grows x.now w' ∧ p u w') ((execOp a.eval o).run P x.now))
    (h : gLex P ops w0 Q rest a (G.upd t p)) : gLex P ops w0 Q (o :: rest) a G := by
  obtain ⟨h1, h2, h3, h4⟩ := plain_spec hp
  refine ⟨.inr p, ⟨h1, h2, .inl ⟨hw, hl, ⟨t, hd, hlt⟩, fun w hw a' ha' => ?_⟩⟩, ?_⟩
  · rw [exec_same h4 h3 ha']
    exact hr ⟨w, hw⟩
  · rw [hd]
    exact h
def depB (ops : Array Oper) (o : Oper) (G : Env) (t0 : Tmp) : Bool :=
  ((o.looksAt ops).all fun t => t == t0 || (G t).isNone) && (o.looksAt ops).contains t0 && (match o.dst with | some d => (G d).isNone | none => true) && (match o.op with | .select .. => false | _ => true) &&
    (match o.guard with | some (g, _) => (match (ops[g]?).bind (·.dst) with | some t => t != t0 | none => true) | none => true)
theorem dep_spec {t0 : Tmp} (h : depB ops o G t0 = true) : guardFree ops o G ∧ dstFree o G ∧ (∀ t ∈ o.looksAt ops, t = t0 ∨ G t = none) ∧ t0 ∈ o.looksAt ops ∧ ∀ cs b, o.op ≠ .select cs b := by
  unfold depB at h
  simp only [Bool.and_eq_true, List.all_eq_true, Bool.or_eq_true, Option.isNone_iff_eq_none, beq_iff_eq, List.contains_iff_mem] at h
  obtain ⟨⟨⟨⟨h1, h2⟩, h3⟩, h4⟩, h5⟩ := h
  refine ⟨fun g b t e1 e2 => ?_, fun d e => ?_, h1, h2, fun cs b e => ?_⟩
  · rcases h1 t (mem_looks_guard e1 e2) with e | e
    · rw [e1] at h5
      simp only [e2] at h5
      subst e
      simp at h5
    · exact e
  · rw [e] at h3; simpa using h3
  · rw [e] at h4; simp at h4
theorem gLex_dep {t0 t : Tmp} {p0 : Pr} (hw : Region.wanted o (yielded ops a.tmps) = true) (hp : depB ops o G t0 = true) (h0 : G t0 = some p0) (ht0 : t0 < a.tmps.size) (hd : o.dst = some t) (hlt : t < a.tmps.size)
    (p : Pr) (hl : Lasts p) (hr : ∀ (x : Later w0) (v : Value), p0 v x.now → runsTo P (fun u w' => Grows x.now w' ∧ p u w') ((execOp (a.put (some t0) v).eval o).run P x.now))
    (h : gLex P ops w0 Q rest a (G.upd t p)) : gLex P ops w0 Q (o :: rest) a G := by
  obtain ⟨h1, h2, h3, h4, h5⟩ := dep_spec hp
  refine ⟨.inr p, ⟨h1, h2, .inl ⟨hw, hl, ⟨t, hd, hlt⟩, fun w hw a' ha' => ?_⟩⟩, ?_⟩
  · have hv := ha' t0 h4
    unfold relAt at hv
    rw [h0] at hv
    obtain ⟨v, hv, hpv⟩ := hv
    have e : execOp a'.eval o = execOp (a.put (some t0) v).eval o := by
      refine execOp_congr o h5 fun x hx => ?_
      cases x with
      | tmp t =>
        have ht : t ∈ o.looksAt ops := List.mem_append_left _ (List.mem_filterMap.2 ⟨.tmp t, by simpa using hx, rfl⟩)
        have h' : a'.tmps[t]? = (a.put (some t0) v).tmps[t]? := by
          by_cases e : t = t0
          · subst e
            rw [hv]
            simp [Act.put, ht0]
          · have h6 := ha' t ht
            unfold relAt at h6
            rw [(h3 t ht).resolve_left e] at h6
            rw [h6]
            simp [Act.put, Array.getElem?_setIfInBounds_ne (Ne.symm e)]
        simp only [Act.eval, Array.getD_eq_getD_getElem?, h']
      | _ => rfl
    rw [e]
    exact hr ⟨w, hw⟩ v hpv
  · rw [hd]
    exact h
end
def RowP (n : Nat) (xs : List Value) : Pr := fun u w => ∃ A c, u = .slice A n c ∧ Rd w A 1 n xs
theorem RowP.lasts (n : Nat) (xs : List Value) : Lasts (RowP n xs) := fun _ _ _ hg ⟨A, c, e, h⟩ => ⟨A, c, e, h.grows hg⟩
end Go.Proofs.Yteodapefimlakaa

/- Regions that draw their order: an operation that reads one value which hangs on the world, and leaves a value that is known; the end where such values are left. -/
namespace Go.Proofs.Yteodapefimlakaa
open Go Go.RowKit
section
variable {P : Program} {w0 : World} {ops : Array Oper} {Q : Act → Env → Prop} {a : Act} {G : Env} {o : Oper} {rest : List Oper}
theorem dep_exec {a' : Act} {t0 : Tmp} {v : Value} (h5 : ∀ cs b, o.op ≠ .select cs b) (ht0 : t0 < a.tmps.size) (hv : a'.tmps[t0]? = some v) (h : ∀ t ∈ o.looksAt ops, t = t0 ∨ a'.tmps[t]? = a.tmps[t]?) : execOp a'.eval o = execOp (a.put (some t0) v).eval o := by
  refine execOp_congr o h5 fun x hx => ?_
  cases x with
  | tmp t =>
    have ht : t ∈ o.looksAt ops := List.mem_append_left _ (List.mem_filterMap.2 ⟨.tmp t, by simpa using hx, rfl⟩)
    have h' : a'.tmps[t]? = (a.put (some t0) v).tmps[t]? := by
      by_cases e : t = t0
      · subst e
        rw [hv]
        simp [Act.put, ht0]
      · rw [(h t ht).resolve_left e]
        simp [Act.put, Array.getElem?_setIfInBounds_ne (Ne.symm e)]
    simp only [Act.eval, Array.getD_eq_getD_getElem?, h']
  | _ => rfl
theorem gLex_depV {t0 : Tmp} {p0 : Pr} (hw : Region.wanted o (yielded ops a.tmps) = true) (hp : depB ops o G t0 = true) (h0 : G t0 = some p0) (ht0 : t0 < a.tmps.size) (v : Value)
    (hr : ∀ (x : Later w0) (u : Value), p0 u x.now → runsTo P (fun u' w' => Grows x.now w' ∧ u' = v) ((execOp (a.put (some t0) u).eval o).run P x.now))
    (h : gLex P ops w0 Q rest (a.put o.dst v) G) : gLex P ops w0 Q (o :: rest) a G := by
  obtain ⟨h1, h2, h3, h4, h5⟩ := dep_spec hp
  refine ⟨.inl v, ⟨h1, h2, .inl ⟨hw, trivial, trivial, fun w hw a' ha' => ?_⟩⟩, ?_⟩
  · have hv := ha' t0 h4
    unfold relAt at hv
    rw [h0] at hv
    obtain ⟨u, hv, hpv⟩ := hv
    rw [dep_exec h5 ht0 hv (fun t ht => (h3 t ht).imp id (fun e => by
      have h6 := ha' t ht
      unfold relAt at h6
      rw [e] at h6
      exact h6))]
    exact hr ⟨w, hw⟩ u hpv
  · have : putG G o.dst (.inl v) = G := by cases o.dst <;> rfl
    rw [this]
    exact h
def AtA (Q : Exit → Act → World → Prop) (a : Act) (G : Env) (w' : World) : Prop := ∀ a', Conc G a a' w' → Q .normal a' w'
theorem AtA.pop {Q : Exit → Act → World → Prop} {w' : World} {t : Tmp} {p : Pr} (hG : G t = none) (ht : t < a.tmps.size) (h : ∀ v, p v w' → AtA Q (a.put (some t) v) G w') : AtA Q a (G.upd t p) w' := fun a' hc => by
  obtain ⟨v, hv⟩ := conc_upd hc ht
  rcases hv with ⟨hp, hc2⟩ | hne
  · exact h v hp a' hc2
  · exact absurd hG hne
theorem AtA.base {Q : Exit → Act → World → Prop} {w' : World} (h : Q .normal a w') : AtA Q a Env.no w' := fun a' hc => by rw [conc_no hc]; exact h
theorem gLex_endA {Q : Exit → Act → World → Prop} (h : ∀ x : Later w0, AtA Q a G x.now) : gLex P ops w0 (fun a G => ∀ w', Grows w0 w' → ∀ a', Conc G a a' w' → Q .normal a' w') [] a G := fun w' hw a' hc => h ⟨w', hw⟩ a' hc
end
end Go.Proofs.Yteodapefimlakaa

/- Regions that draw their order: an operation that reads two values which hang on the world, and leaves a value that is known. -/
namespace Go.Proofs.Yteodapefimlakaa
open Go Go.RowKit
section
variable {P : Program} {w0 : World} {ops : Array Oper} {Q : Act → Env → Prop} {a : Act} {G : Env} {o : Oper} {rest : List Oper}
def depB2 (ops : Array Oper) (o : Oper) (G : Env) (t1 t2 : Tmp) : Bool :=
  ((o.looksAt ops).all fun t => t == t1 || t == t2 || (G t).isNone) && (o.looksAt ops).contains t1 && (o.looksAt ops).contains t2 && (match o.dst with | some d => (G d).isNone | none => true) && (match o.op with | .select .. => false | _ => true) &&
    (match o.guard with | some (g, _) => (match (ops[g]?).bind (·.dst) with | some t => t != t1 && t != t2 | none => true) | none => true)
theorem dep_spec2 {t1 t2 : Tmp} (h : depB2 ops o G t1 t2 = true) : guardFree ops o G ∧ dstFree o G ∧ (∀ t ∈ o.looksAt ops, t = t1 ∨ t = t2 ∨ G t = none) ∧ t1 ∈ o.looksAt ops ∧ t2 ∈ o.looksAt ops ∧ ∀ cs b, o.op ≠ .select cs b := by
  unfold depB2 at h
  simp only [Bool.and_eq_true, List.all_eq_true, Bool.or_eq_true, Option.isNone_iff_eq_none, beq_iff_eq, List.contains_iff_mem] at h
  obtain ⟨⟨⟨⟨⟨h1, h2⟩, h2'⟩, h3⟩, h4⟩, h5⟩ := h
  refine ⟨fun g b t e1 e2 => ?_, fun d e => ?_, fun t ht => (by rcases h1 t ht with (e | e) | e; exact .inl e; exact .inr (.inl e); exact .inr (.inr e)), h2, h2', fun cs b e => ?_⟩
  · rcases h1 t (mem_looks_guard e1 e2) with (e | e) | e
    · rw [e1] at h5
      simp only [e2] at h5
      subst e
      simp at h5
    · rw [e1] at h5
      simp only [e2] at h5
      subst e
      simp at h5
    · exact e
  · rw [e] at h3; simpa using h3
  · rw [e] at h4; simp at h4
theorem dep_exec2 {a' : Act} {t1 t2 : Tmp} {v1 v2 : Value} (h5 : ∀ cs b, o.op ≠ .select cs b) (ht1 : t1 < a.tmps.size) (ht2 : t2 < a.tmps.size) (hne : t1 ≠ t2) (hv1 : a'.tmps[t1]? = some v1) (hv2 : a'.tmps[t2]? = some v2) (h : ∀ t ∈ o.looksAt ops, t = t1 ∨ t = t2 ∨ a'.tmps[t]? = a.tmps[t]?) :
    execOp a'.eval o = execOp ((a.put (some t1) v1).put (some t2) v2).eval o := by
  refine execOp_congr o h5 fun x hx => ?_
  cases x with
  | tmp t =>
    have ht : t ∈ o.looksAt ops := List.mem_append_left _ (List.mem_filterMap.2 ⟨.tmp t, by simpa using hx, rfl⟩)
    have h' : a'.tmps[t]? = ((a.put (some t1) v1).put (some t2) v2).tmps[t]? := by
      by_cases e2 : t = t2
      · subst e2
        rw [hv2]
        simp [Act.put, ht2]
      · by_cases e : t = t1
        · subst e
          rw [hv1]
          show some v1 = (((a.tmps.setIfInBounds t v1).setIfInBounds t2 v2))[t]?
          rw [Array.getElem?_setIfInBounds_ne (Ne.symm e2)]
          simp [ht1]
        · rw [((h t ht).resolve_left e).resolve_left e2]
          simp [Act.put, Array.getElem?_setIfInBounds_ne (Ne.symm e), Array.getElem?_setIfInBounds_ne (Ne.symm e2)]
    simp only [Act.eval, Array.getD_eq_getD_getElem?, h']
  | _ => rfl
theorem gLex_depV2 {t1 t2 : Tmp} {p1 p2 : Pr} (hw : Region.wanted o (yielded ops a.tmps) = true) (hp : depB2 ops o G t1 t2 = true) (h1 : G t1 = some p1) (h2 : G t2 = some p2) (ht1 : t1 < a.tmps.size) (ht2 : t2 < a.tmps.size) (hne : t1 ≠ t2) (v : Value)
    (hr : ∀ (x : Later w0) (u1 u2 : Value), p1 u1 x.now → p2 u2 x.now → runsTo P (fun u' w' => Grows x.now w' ∧ u' = v) ((execOp ((a.put (some t1) u1).put (some t2) u2).eval o).run P x.now))
    (h : gLex P ops w0 Q rest (a.put o.dst v) G) : gLex P ops w0 Q (o :: rest) a G := by
  obtain ⟨k1, k2, k3, k4, k4', k5⟩ := dep_spec2 hp
  refine ⟨.inl v, ⟨k1, k2, .inl ⟨hw, trivial, trivial, fun w hw a' ha' => ?_⟩⟩, ?_⟩
  · have hv1 := ha' t1 k4
    have hv2 := ha' t2 k4'
    unfold relAt at hv1 hv2
    rw [h1] at hv1
    rw [h2] at hv2
    obtain ⟨u1, hv1, hp1⟩ := hv1
    obtain ⟨u2, hv2, hp2⟩ := hv2
    rw [dep_exec2 k5 ht1 ht2 hne hv1 hv2 (fun t ht => (k3 t ht).imp id (fun e => e.imp id (fun e => by
      have h6 := ha' t ht
      unfold relAt at h6
      rw [e] at h6
      exact h6)))]
    exact hr ⟨w, hw⟩ u1 u2 hp1 hp2
  · have : putG G o.dst (.inl v) = G := by cases o.dst <;> rfl
    rw [this]
    exact h
theorem gLex_propG {t : Tmp} (hw : Region.wanted o (yielded ops a.tmps) = true) (hp : plainB ops o G = true) (hd : o.dst = some t) (hlt : t < a.tmps.size)
    (p : Pr) (hl : Lasts p) (hr : ∀ x : Later w0, runsTo P (fun u w' => Grows x.now w' ∧ p u w') ((execOp a.eval o).run P x.now))
    (h : gLex P ops w0 Q rest a (G.upd t p)) : gLex P ops w0 Q (o :: rest) a G := by
  obtain ⟨h1, h2, h3, h4⟩ := plain_spec hp
  refine ⟨.inr p, ⟨h1, h2, .inl ⟨hw, hl, ⟨t, hd, hlt⟩, fun w hw a' ha' => ?_⟩⟩, ?_⟩
  · rw [exec_same h4 h3 ha']
    exact hr ⟨w, hw⟩
  · rw [hd]
    exact h
def AtB (Q : Exit → Act → World → Prop) (a : Act) (G : Env) (w' : World) : Prop := ∀ a', Conc G a a' w' → Q .normal a' w'
theorem AtB.pop {Q : Exit → Act → World → Prop} {w' : World} {t : Tmp} {p : Pr} (hG : G t = none) (ht : t < a.tmps.size) (h : ∀ v, p v w' → AtB Q (a.put (some t) v) G w') : AtB Q a (G.upd t p) w' := fun a' hc => by
  obtain ⟨v, hv⟩ := conc_upd hc ht
  rcases hv with ⟨hp, hc2⟩ | hne
  · exact h v hp a' hc2
  · exact absurd hG hne
theorem AtB.base {Q : Exit → Act → World → Prop} {w' : World} (h : Q .normal a w') : AtB Q a Env.no w' := fun a' hc => by rw [conc_no hc]; exact h
theorem gLex_endB {Q : Exit → Act → World → Prop} (h : ∀ x : Later w0, AtB Q a G x.now) : gLex P ops w0 (fun a G => ∀ w', Grows w0 w' → ∀ a', Conc G a a' w' → Q .normal a' w') [] a G := fun w' hw a' hc => h ⟨w', hw⟩ a' hc
end
def BRow (n : Nat) (L : List Bool) : Pr := fun u w => ∃ g, u = .slice (some ⟨g, 0, none⟩) n n ∧ Arr w g 4 (L.map .bool)
theorem BRow.lasts (n : Nat) (L : List Bool) : Lasts (BRow n L) := fun _ _ _ hg ⟨g, e, h⟩ => ⟨g, e, h.grow hg⟩
end Go.Proofs.Yteodapefimlakaa
