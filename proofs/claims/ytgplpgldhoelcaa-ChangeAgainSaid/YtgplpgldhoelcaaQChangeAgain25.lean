/- Contracts: a graph with one weight changed. -/
import Derived.Test.YtgplpgldhoelcaaQChangeAgain04
import Derived.Test.YtgplpgldhoelcaaQChangeAgain24
import Derived.Test.YtgplpgldhoelcaaQChangeAgain23
import Derived.Test.YtgplpgldhoelcaaQChangeAgain15
import Derived.Test.YtgplpgldhoelcaaQChangeAgain16
import Derived.Test.YtgplpgldhoelcaaQChangeAgain06
import Derived.Test.YtgplpgldhoelcaaQChangeAgain03
import Derived.Test.YtgplpgldhoelcaaQChangeAgain00
import Derived.Test.YtgplpgldhoelcaaQChangeAgain01
namespace Go.Proofs.Ytgplpgldhoelcaa
open Go Go.RowKit
def chF (m : Nat) (e w : Int) : Int := if edgeB m e then (if wtB w then 0 else 2) else 8
def withF (N : Int) (E : List Edg) (e w : Int) : Int := if rightF N E = 0 then chF E.length e w else 1
def GiveGF (w : World) (f : Int) (P : Int → Option Addr → Nat → Nat → World → Prop) (e : Ending) (w' : World) : Prop := ∃ N A n c, e = .returned (.tuple #[.agg #[.int .i64 N, .slice A n c], .int .i64 f]) ∧ P N A n c w' ∧ Grows w w'
theorem es_at2 {E : List Edg} {k : Nat} (hk : k < E.length) : (esCells E)[k * 3 + 2]? = some (.int .u64 (ge E k).w) := by rw [esCells_at E k 2 hk (by omega)]; rfl
set_option maxRecDepth 20000 in
set_option maxHeartbeats 4000000 in
theorem gWith (N : Int) (A : Option Addr) (n c : Nat) (E : List Edg) (e x : Int) (w : World) (h : Rd w A 3 n (esCells E)) (hn : n ≤ 1000000) :
    Calls Try.prog 79 #[.agg #[.int .i64 N, .slice A n c], .int .i64 e, .int .u64 x] w (GiveGF w (withF N E e x) fun _ _ _ _ _ => True) := by
  have hl := h.elen
  have HC := hide (fun W (g : Grows w W) => gClone N A n c E W (h.grows g) hn)
  have C1 := fun W (g : Grows w W) => gRight N A n c E W (h.grows g) hn
  have C2 := hide (fun W => gEdge N e A n c W)
  have C3 := hide (fun W => calls_same (gWeight x W))
  have HV : Hid (withF N E e x = if rightF N E = 0 then (if edgeB n e then (if wtB x then 0 else 2) else 8) else 1) := by unfold withF chF; rw [hl]; rfl
  rw [HV.out]
  have HH := hide hl
  clear h HV hl
  by_cases hr : rightF N E = 0
  · rw [if_pos hr]
    rw [hr] at C1
    have H1 := hide C1
    clear C1 hr
    cases he : edgeB n e with
    | false =>
      rw [he] at C2
      clear he
      rw [if_neg (by simp)]
      go_enter Try.func79, Try.ntmps79
      go_wp2_with (first | (go_at_call 51; refine (H1.out _ GG).mono ?_; rintro e w' ⟨rfl, hg⟩; (first | obtain ⟨x, rfl⟩ := Grows.later2 hg | obtain ⟨x, rfl⟩ := Grows.later hg); clear hg) | (go_at_call 126; refine (C2.out _).mono ?_; rintro e w' ⟨rfl, hg⟩; (first | obtain ⟨x, rfl⟩ := Grows.later2 hg | obtain ⟨x, rfl⟩ := Grows.later hg); clear hg))
      refine bodyPost_ret (v := .tuple #[.agg #[.int .i64 0, .slice none 0 0], .int .i64 8]) (by simp (maxDischargeDepth := 6) [results, Try.results79, go_sem, *]) rfl ⟨_, _, _, _, rfl, trivial, GG⟩
    | true =>
      rw [if_pos rfl]
      rw [he] at C2
      have hek : 0 ≤ e ∧ e < n := of_decide_eq_true he
      clear he
      cases hx : wtB x with
      | false =>
        rw [hx] at C3
        clear hx
        rw [if_neg (by simp)]
        go_enter Try.func79, Try.ntmps79
        go_wp2_with (first | (go_at_call 51; refine (H1.out _ GG).mono ?_; rintro e w' ⟨rfl, hg⟩; (first | obtain ⟨x, rfl⟩ := Grows.later2 hg | obtain ⟨x, rfl⟩ := Grows.later hg); clear hg) | (go_at_call 126; refine (C2.out _).mono ?_; rintro e w' ⟨rfl, hg⟩; (first | obtain ⟨x, rfl⟩ := Grows.later2 hg | obtain ⟨x, rfl⟩ := Grows.later hg); clear hg) | (go_at_call 93; refine (C3.out _).mono ?_; rintro e w' ⟨rfl, hg⟩; (first | obtain ⟨x, rfl⟩ := Grows.later2 hg | obtain ⟨x, rfl⟩ := Grows.later hg); clear hg))
        refine bodyPost_ret (v := .tuple #[.agg #[.int .i64 0, .slice none 0 0], .int .i64 2]) (by simp (maxDischargeDepth := 6) [results, Try.results79, go_sem, *]) rfl ⟨_, _, _, _, rfl, trivial, GG⟩
      | true =>
        rw [hx] at C3
        clear hx
        rw [if_pos rfl]
        obtain ⟨k, rfl⟩ := Int.eq_ofNat_of_zero_le hek.1
        have hk : k < n := by omega
        clear hek
        go_enter Try.func79, Try.ntmps79
        go_wp2_with (first
          | (go_at_call 51; refine (H1.out _ GG).mono ?_; rintro e w' ⟨rfl, hg⟩; obtain ⟨x1, rfl⟩ := hg.later; clear hg)
          | (go_at_call 126; refine (C2.out _).mono ?_; rintro e w' ⟨rfl, hg⟩; obtain ⟨x2, rfl⟩ := hg.later; clear hg)
          | (go_at_call 93; refine (C3.out _).mono ?_; rintro e w' ⟨rfl, hg⟩; obtain ⟨x3, rfl⟩ := hg.later; clear hg)
          | (go_at_call 50; refine (HC.out _ GG).mono ?_; rintro e w' ⟨A1, c1, rfl, ho1, hg⟩; obtain ⟨x4, rfl⟩ := hg.later; obtain ⟨g, rfl, hgB, hlt, hM⟩ := ho1.atS (by rw [HH.out]; omega); have c5 := hM _ _ (es_at2 (k := k) (by rw [HH.out]; exact hk)); have hkl : k < E.length := (by rw [HH.out]; exact hk); have HO1 := hide ho1; have hgw : w.heap.size ≤ g := (Nat.le_trans (show Grows w x3.now from GG).size hgB); clear hg ho1 hM))
        refine bodyPost_ret (v := .tuple #[.agg #[.int .i64 N, .slice (some ⟨g, 0, none⟩) E.length c1], .int .i64 0]) (by simp (maxDischargeDepth := 6) [results, Try.results79, go_sem, *]) rfl ⟨_, _, _, _, rfl, trivial, GG⟩
  · rw [if_neg hr]
    have hr2 : (rightF N E == 0) = false := beq_eq_false_iff_ne.2 hr
    have H1 := hide C1
    clear C1 hr
    go_enter Try.func79, Try.ntmps79
    go_wp2_with (first | (go_at_call 51; refine (H1.out _ GG).mono ?_; rintro e w' ⟨rfl, hg⟩; (first | obtain ⟨x, rfl⟩ := Grows.later2 hg | obtain ⟨x, rfl⟩ := Grows.later hg); clear hg))
    refine bodyPost_ret (v := .tuple #[.agg #[.int .i64 0, .slice none 0 0], .int .i64 1]) (by simp (maxDischargeDepth := 6) [results, Try.results79, go_sem, *]) rfl ⟨_, _, _, _, rfl, trivial, GG⟩
end Go.Proofs.Ytgplpgldhoelcaa

namespace Go.Proofs.Ytgplpgldhoelcaa
open Go Go.RowKit
def chB (m : Nat) (c : Chg) : Bool := decide (chF m c.e c.w = 0)
theorem chB_spec {m : Nat} {c : Chg} (h : chB m c = true) : 0 ≤ c.e ∧ c.e < m ∧ 1 ≤ c.w ∧ c.w ≤ 4294967296 := by
  have h := of_decide_eq_true h
  unfold chF at h
  split at h
  · rename_i h1
    split at h
    · rename_i h2
      have := of_decide_eq_true h1
      have := of_decide_eq_true h2
      omega
    · omega
  · omega
def apE (E : List Edg) (L : List Chg) : Nat → List Edg
  | 0 => E
  | k + 1 => setW (apE E L k) (gc L k).e.toNat (gc L k).w
theorem apE_succ (E : List Edg) (L : List Chg) (k : Nat) : apE E L (k + 1) = setW (apE E L k) (gc L k).e.toNat (gc L k).w := rfl
theorem apE_len (E : List Edg) (L : List Chg) : ∀ k, (apE E L k).length = E.length
  | 0 => rfl
  | k + 1 => by rw [apE_succ, setW_len, apE_len E L k]
def bdK (m : Nat) (L : List Chg) : Nat := (L.takeWhile (chB m)).length
theorem bdK_le (m : Nat) (L : List Chg) : bdK m L ≤ L.length := (List.takeWhile_prefix _).length_le
theorem bdK_ok {m : Nat} {L : List Chg} {k : Nat} (hk : k < bdK m L) : chB m (gc L k) = true := by
  have hp := List.takeWhile_prefix (p := chB m) (l := L)
  have h1 : k < (L.takeWhile (chB m)).length := hk
  have h2 : gc L k = (L.takeWhile (chB m))[k] := by
    have := hp.getElem h1
    have h3 : k < L.length := Nat.lt_of_lt_of_le hk (bdK_le m L)
    simp [gc, h3, this]
  rw [h2]
  have := List.all_takeWhile (p := chB m) (l := L)
  exact List.all_eq_true.1 this _ (List.getElem_mem h1)
theorem bdK_at {m : Nat} : ∀ {L : List Chg} {k : Nat}, k < L.length → (∀ j, j < k → chB m (gc L j) = true) → chB m (gc L k) = false → bdK m L = k
  | c :: L, 0, _, _, h => by
    have h : chB m c = false := h
    unfold bdK
    rw [List.takeWhile_cons, h]; rfl
  | c :: L, k + 1, hk, hj, h => by
    have h0 : chB m c = true := hj 0 (by omega)
    have := bdK_at (m := m) (L := L) (k := k) (by simpa using hk) (fun j hjk => hj (j + 1) (by omega)) h
    unfold bdK at *
    rw [List.takeWhile_cons, h0]
    simpa using this
theorem bdK_all {m : Nat} : ∀ {L : List Chg}, (∀ j, j < L.length → chB m (gc L j) = true) → bdK m L = L.length
  | [], _ => rfl
  | c :: L, hj => by
    have h0 : chB m c = true := hj 0 (by simp)
    have := bdK_all (m := m) (L := L) (fun j hjk => hj (j + 1) (by simpa using hjk))
    unfold bdK at *
    rw [List.takeWhile_cons, h0]
    simpa using this
theorem right_set {N : Int} {E : List Edg} {e : Nat} {w : Int} (h : rightF N E = 0) (he : e < E.length) (hw : wtB w = true) : rightF N (setW E e w) = 0 := by
  unfold rightF at *
  rw [setW_len]
  split at h
  · omega
  · rename_i h1
    rw [if_neg h1]
    split at h
    · omega
    · rename_i h2
      rw [if_neg h2]
      split at h
      · omega
      · rename_i h3
        split at h
        · omega
        · rename_i h4
          have key : ∀ (p : Edg → Bool), (E.any p = false) → (p ⟨(ge E e).f, (ge E e).t, w⟩ = false) → (setW E e w).any p = false := by
            intro p hp hq
            rw [List.any_eq_false] at *
            intro x hx
            unfold setW at hx
            rcases List.mem_or_eq_of_mem_set hx with hx | rfl
            · exact hp x hx
            · simpa using hq
          have hmem : ge E e ∈ E := by
            have : ge E e = E[e] := by simp [ge, he]
            rw [this]; exact List.getElem_mem he
          have h3' : E.any (looseB N) = false := by simpa using h3
          have h4' : E.any heavyB = false := by simpa using h4
          have k1 := key (looseB N) h3' (by
            have := List.any_eq_false.1 h3' _ hmem
            unfold looseB at this ⊢
            simpa using this)
          have k2 := key heavyB h4' (by unfold heavyB; rw [hw]; rfl)
          rw [k1, k2]
          simp
theorem ok_wt {m : Nat} {c : Chg} (h : chB m c = true) : wtB c.w = true := by
  have := chB_spec h
  exact decide_eq_true (by omega)
theorem right_ap {N : Int} {E : List Edg} {L : List Chg} (h : rightF N E = 0) : ∀ k, (∀ j, j < k → chB E.length (gc L j) = true) → rightF N (apE E L k) = 0
  | 0, _ => h
  | k + 1, hj => by
    have hc := hj k (by omega)
    have := chB_spec hc
    exact right_set (right_ap h k fun j hjk => hj j (by omega)) (by rw [apE_len]; omega) (ok_wt hc)
def apOk (N : Int) (E : List Edg) (L : List Chg) : Bool := decide (rightF N E = 0) && decide (bdK E.length L = L.length)
def apN (N : Int) (E : List Edg) (L : List Chg) : Int := if apOk N E L then N else 0
def apL (N : Int) (E : List Edg) (L : List Chg) : List Edg := if apOk N E L then apE E L L.length else []
def apI (N : Int) (E : List Edg) (L : List Chg) : Int := if rightF N E = 0 then (if bdK E.length L < L.length then (bdK E.length L : Int) else 0) else 0
def apF (N : Int) (E : List Edg) (L : List Chg) : Int := if rightF N E = 0 then (if bdK E.length L < L.length then chF E.length (gc L (bdK E.length L)).e (gc L (bdK E.length L)).w else 0) else 1
def GiveA (w : World) (N : Int) (E : List Edg) (i f : Int) (e : Ending) (w' : World) : Prop := ∃ A c, e = .returned (.tuple #[.agg #[.int .i64 N, .slice A E.length c], .int .i64 i, .int .i64 f]) ∧ Rd w' A 3 E.length (esCells E) ∧ Grows w w'
end Go.Proofs.Ytgplpgldhoelcaa

namespace Go.Proofs.Ytgplpgldhoelcaa
open Go Go.RowKit
theorem chB_at {m : Nat} {c : Chg} : chB m c = true ↔ chF m c.e c.w = 0 := ⟨fun h => of_decide_eq_true h, fun h => decide_eq_true h⟩
theorem ap_bad {N : Int} {E : List Edg} {L : List Chg} {k : Nat} (hr : rightF N E = 0) (hk : k < L.length) (hj : ∀ j, j < k → chB E.length (gc L j) = true) (h : chB E.length (gc L k) = false) :
    apN N E L = 0 ∧ apL N E L = [] ∧ apI N E L = k ∧ apF N E L = chF E.length (gc L k).e (gc L k).w := by
  have hb := bdK_at hk hj h
  have ho : apOk N E L = false := by unfold apOk; rw [hb, decide_eq_false (show ¬ k = L.length by omega), Bool.and_false]
  unfold apN apL apI apF
  rw [ho, hb, if_pos hr, if_pos hr, if_pos hk, if_pos hk]
  exact ⟨rfl, rfl, rfl, rfl⟩
theorem ap_all {N : Int} {E : List Edg} {L : List Chg} (hr : rightF N E = 0) (hj : ∀ j, j < L.length → chB E.length (gc L j) = true) :
    apN N E L = N ∧ apL N E L = apE E L L.length ∧ apI N E L = 0 ∧ apF N E L = 0 := by
  have hb := bdK_all hj
  have ho : apOk N E L = true := by unfold apOk; rw [hb, decide_eq_true hr, decide_eq_true rfl]; rfl
  unfold apN apL apI apF
  rw [ho, hb, if_pos hr, if_pos hr, if_neg (Nat.lt_irrefl _), if_neg (Nat.lt_irrefl _)]
  exact ⟨rfl, rfl, rfl, rfl⟩
theorem ap_not {N : Int} {E : List Edg} {L : List Chg} (hr : ¬ rightF N E = 0) : apN N E L = 0 ∧ apL N E L = [] ∧ apI N E L = 0 ∧ apF N E L = 1 := by
  have ho : apOk N E L = false := by unfold apOk; rw [decide_eq_false hr, Bool.false_and]
  unfold apN apL apI apF
  rw [ho, if_neg hr, if_neg hr]
  exact ⟨rfl, rfl, rfl, rfl⟩
theorem Rd.none0 (w : World) (size : Nat) : Rd w none size 0 [] := ⟨by simp, fun h => absurd h (by simp)⟩
def GiveAF (w : World) (N : Int) (E : List Edg) (i f : Int) (e : Ending) (w' : World) : Prop := ∃ A c, e = .returned (.tuple #[.agg #[.int .i64 N, .slice A E.length c], .int .i64 i, .int .i64 f]) ∧ Rd w' A 3 E.length (esCells E) ∧ (∀ b off, A = some ⟨b, off, none⟩ → 0 < E.length → w.heap.size ≤ b) ∧ Grows w w'
set_option maxRecDepth 20000 in
set_option maxHeartbeats 4000000 in
theorem chApplyF (N : Int) (A : Option Addr) (n c : Nat) (E : List Edg) (B : Option Addr) (m d : Nat) (L : List Chg) (w : World) (h : Rd w A 3 n (esCells E)) (hn : n ≤ 1000000) (hc : Rd w B 2 m (csCells L)) (hm : m ≤ 1000000) :
    Calls Try.prog 39 #[.agg #[.int .i64 N, .slice A n c], .slice B m d] w (GiveAF w (apN N E L) (apL N E L) (apI N E L) (apF N E L)) := by
  have hl := h.elen
  have hlm := hc.clen
  have HC := hide (fun W (g : Grows w W) => gClone N A n c E W (h.grows g) hn)
  have C1 := fun W (g : Grows w W) => gRight N A n c E W (h.grows g) hn
  by_cases hr : rightF N E = 0
  · rw [hr] at C1
    have H1 := hide C1
    have HAP := hide (fun k (hj : ∀ j, j < k → chB n (gc L j) = true) => right_ap hr k (by rw [hl]; exact hj))
    have HBad := hide (fun k (hk : k < m) (hj : ∀ j, j < k → chB n (gc L j) = true) (h : chB n (gc L k) = false) => ap_bad (N := N) hr (L := L) (k := k) (by omega) (by rw [hl]; exact hj) (by rw [hl]; exact h))
    have HAll := hide (fun (hj : ∀ j, j < m → chB n (gc L j) = true) => ap_all (N := N) hr (L := L) (by rw [hl, hlm]; exact hj))
    have HC2 := hide hc
    have HLe := hide (fun k => (apE_len E L k).trans hl)
    have HLm := hide hlm
    have HL := hide hl
    clear C1 hr h hc hl hlm
    go_enter Try.func39, Try.ntmps39
    go_wp2_with fail
    go_step3
    go_wp2_with (first
      | (go_at_call 51; refine (H1.out _ GG).mono ?_; rintro e w' ⟨rfl, hg⟩; obtain ⟨x1, rfl⟩ := hg.later; clear hg)
      | (go_at_call 50; refine (HC.out _ GG).mono ?_; rintro e w' ⟨A1, c1, rfl, ho1, hg⟩; obtain ⟨x2, rfl⟩ := hg.later; have HO1 := hide ho1; clear hg ho1))
    go_step3
    go_wp2_with fail
    have HA1 : Hid (0 < n → ∃ g, A1 = some ⟨g, 0, none⟩ ∧ x1.now.heap.size ≤ g ∧ g < x2.now.heap.size) := fun h0 => by
      obtain ⟨g, e, h1, h2, _⟩ := HO1.out.atS (by rw [HL.out]; exact h0)
      exact ⟨g, e, h1, h2⟩
    have hgx := x1.size
    simp only [World.size_alloc] at hgx
    have hgx2 := x2.size
    go_loopw [20] (fun i wr => ∃ k : Nat, k ≤ m ∧ i = .int .i64 (k : Int) ∧ ∃ y : Later x1.now, wr = y.now ∧ Own y.now x1.now.heap.size 93 3 A1 E.length c1 (esCells (apE E L k)) ∧ Holds y.now ⟨x2.now.heap.size, 0, none⟩ (.int .i64 N) ∧ Holds y.now ⟨x2.now.heap.size, 1, none⟩ (.slice A1 E.length c1) ∧ Hid (∀ j, j < k → chB n (gc L j) = true)) (fun i _ => m - (Go.RowKit.intOf i).toNat)
    case atStart => exact ⟨0, by omega, by go_num, ⟨x2.now.alloc _, GG⟩, rfl, HO1.out.new _, @Mine.holds _ _ _ (Mine.new0 _ _ _ _), @Mine.holds _ _ _ (Mine.new1 _ _ _ _ _), fun j h => by omega⟩
    case round =>
      obtain ⟨k, hk, rfl, y, rfl, hown, b0, b1, HJ⟩ := hrel
      have HO := hide hown
      clear hown
      by_cases hend : m ≤ k
      · have hkm : k = m := by omega
        subst hkm
        have HV := hide (HAll.out HJ.out)
        go_wp2
        rw [Exit.noGoto_ret]
        refine bodyPost_ret (v := .tuple #[.agg #[.int .i64 N, .slice A1 E.length c1], .int .i64 0, .int .i64 0]) (by simp (maxDischargeDepth := 6) [results, Try.results39, go_sem, *]) rfl ?_
        obtain ⟨v1, v2, v3, v4⟩ := HV.out
        rw [v1, v2, v3, v4, HLm.out]
        refine ⟨A1, c1, by rw [apE_len], ?_, fun b off e h0 => by obtain ⟨g, e', h1, _⟩ := HA1.out (by rw [apE_len, HL.out] at h0; exact h0); rw [e'] at e; injection e with e; injection e with e1 _; omega, GG⟩
        rw [apE_len]
        exact ((HO.out.low (by show w.heap.size + 1 < _; omega) _).low (by show w.heap.size + 1 < _; omega) _).rd
      · obtain ⟨b, off, rfl, hcc⟩ := HC2.out.chgsH (by omega)
        obtain ⟨c2, c3⟩ := hcc k (by omega)
        clear hcc
        have D1 := fun (W : World) (g : Grows y.now W) => gWith N A1 E.length c1 (apE E L k) (gc L k).e (gc L k).w W (HO.out.rd.grows g) (by rw [HL.out]; omega)
        have hwf : withF N (apE E L k) (gc L k).e (gc L k).w = chF n (gc L k).e (gc L k).w := by unfold withF; rw [if_pos (HAP.out k HJ.out), HLe.out k]
        rw [hwf] at D1
        cases hb : chB n (gc L k) with
        | false =>
          have HV := hide (HBad.out k (by omega) HJ.out hb)
          have hf : (chF n (gc L k).e (gc L k).w == 0) = false := beq_eq_false_iff_ne.2 (fun e => by rw [chB_at.2 e] at hb; cases hb)
          have HFv : Hid (chF E.length (gc L k).e (gc L k).w = chF n (gc L k).e (gc L k).w) := by rw [HL.out]; rfl
          have K1 := hide D1
          clear D1 hwf hb
          generalize chF n (gc L k).e (gc L k).w = f at *
          generalize (gc L k).e = e at *
          generalize (gc L k).w = x at *
          go_wp2_with (go_at_call 79; refine (K1.out _ GG).mono ?_; rintro e w' ⟨N4, A4, n4, c4, rfl, _, hg⟩; obtain ⟨x4, rfl⟩ := hg.later; clear hg)
          rw [Exit.noGoto_ret]
          refine bodyPost_ret (v := .tuple #[.agg #[.int .i64 0, .slice none 0 0], .int .i64 (k : Int), .int .i64 f]) (by simp (maxDischargeDepth := 6) [results, Try.results39, go_sem, *]) rfl ?_
          obtain ⟨v1, v2, v3, v4⟩ := HV.out
          rw [v1, v2, v3, v4, HFv.out]
          exact ⟨none, 0, rfl, Rd.none0 _ _, (fun _ _ h => (by cases h)), GG⟩
        | true =>
          obtain ⟨e1, e2, _, _⟩ := chB_spec hb
          rw [chB_at.1 hb] at D1
          have K1 := hide D1
          have HJ2 : Hid (∀ j, j < k + 1 → chB n (gc L j) = true) := fun j hj => by
            by_cases e : j = k
            · rw [e]; exact hb
            · exact HJ.out j (by omega)
          clear D1 hwf hb
          obtain ⟨g, rfl, hg1, hg2⟩ := HA1.out (by omega)
          have HN := hide (apE_succ E L k)
          have HLk := hide (HLe.out k)
          have HS := hide (setW_same (apE E L k))
          generalize apE E L k = Ek at *
          generalize (gc L k).w = x at *
          obtain ⟨e, he⟩ := Int.eq_ofNat_of_zero_le e1
          rw [he] at c2 e2 K1 HN
          rw [Int.toNat_natCast] at HN
          clear he
          have hen : e < E.length := by rw [HL.out]; omega
          obtain ⟨g', e', _, _, hM⟩ := HO.out.atS (by omega)
          obtain rfl : g = g' := by simpa using e'
          have c5 := hM _ _ (es_at2 (k := e) (by rw [HLk.out]; omega))
          clear hM e'
          by_cases hw : (ge Ek e).w = x
          · have hd : ((ge Ek e).w == x) = true := beq_iff_eq.2 hw
            have HN2 : Hid (apE E L (k + 1) = Ek) := by show _ = _; rw [HN.out, ← hw]; exact HS.out e
            clear hw
            generalize (ge Ek e).w = xo at *
            go_wp2_with (go_at_call 79; refine (K1.out _ GG).mono ?_; rintro e w' ⟨N4, A4, n4, c4, rfl, _, hg⟩; obtain ⟨x4, rfl⟩ := hg.later; clear hg)
            ((first | refine wp_region_gen (by kernel_rfl) (by kernel_rfl) ?_); (repeat' (first | (refine gLex_val0 rfl (by kernel_rfl) (fun K hK => ?_); (go_simp; (try (simp only [↓IntWalk.iteOmega]; try go_simp)); (try simp (disch := omega) only [IntWalk.i64_in]); (try simp (disch := omega) only [IntWalk.u64_in]); first | (refine hK _ ?_; clear hK K) | (apply Exists.intro; refine ⟨fun x => ?_, hK _ ?_⟩; (first | fail); clear hK K))) | (refine gLex_undef rfl rfl rfl (by kernel_rfl) (fun K hK => ?_); go_simp; refine hK _ ?_; clear hK K) | (refine gLex_ask rfl rfl rfl ?_; first | (apply gAsk_yes; kernel_rfl; intro K hK; (go_simp; (try (simp only [↓IntWalk.iteOmega]; try go_simp)); (try simp (disch := omega) only [IntWalk.i64_in]); (try simp (disch := omega) only [IntWalk.u64_in]); first | (refine hK _ ?_; clear hK K) | (apply Exists.intro; refine ⟨fun x => ?_, hK _ ?_⟩; (first | fail); clear hK K))) | ((first | apply gAsk_no1 | apply gAsk_no2); kernel_rfl; intro K hK; simp [go_sem]; refine hK _ ?_; clear hK K) | (apply gAsk_part; kernel_rfl; all_goals (intro h K hK; (try simp only [Bool.not_true] at h); (try simp only [Bool.not_false] at h); (try simp only [decide_eq_true_eq] at h); (try simp only [decide_eq_false_iff_not] at h); first | (exfalso; first | contradiction | omega) | (go_simp; (try (simp only [↓IntWalk.iteOmega]; try go_simp)); (try simp (disch := omega) only [IntWalk.i64_in]); (try simp (disch := omega) only [IntWalk.u64_in]); first | (refine hK _ ?_; clear hK K) | (apply Exists.intro; refine ⟨fun x => ?_, hK _ ?_⟩; (first | fail); clear hK K))))))); all_goals ((apply gLex_end); intro x5))
            go_wp2
            exact ⟨⟨k + 1, by omega, by go_num, ⟨x5.now, GG⟩, rfl, by rw [HN2.out]; exact (show Own x5.now _ _ _ _ _ _ _ from HO.out.grows GG), (inferInstance : Holds x5.now _ _), (inferInstance : Holds x5.now _ _), HJ2⟩, by simp [Go.RowKit.intOf]; omega⟩
          · have hd : ((ge Ek e).w == x) = false := beq_eq_false_iff_ne.2 hw
            clear hw
            generalize (ge Ek e).w = xo at *
            go_wp2_with (go_at_call 79; refine (K1.out _ GG).mono ?_; rintro e w' ⟨N4, A4, n4, c4, rfl, _, hg⟩; obtain ⟨x4, rfl⟩ := hg.later; clear hg)
            ((first | refine wp_region_gen (by kernel_rfl) (by kernel_rfl) ?_); (repeat' (first | (refine gLex_val0 rfl (by kernel_rfl) (fun K hK => ?_); (go_simp; (try (simp only [↓IntWalk.iteOmega]; try go_simp)); (try simp (disch := omega) only [IntWalk.i64_in]); (try simp (disch := omega) only [IntWalk.u64_in]); first | (refine hK _ ?_; clear hK K) | (apply Exists.intro; refine ⟨fun x => ?_, hK _ ?_⟩; (first | fail); clear hK K))) | (refine gLex_undef rfl rfl rfl (by kernel_rfl) (fun K hK => ?_); go_simp; refine hK _ ?_; clear hK K) | (refine gLex_ask rfl rfl rfl ?_; first | (apply gAsk_yes; kernel_rfl; intro K hK; (go_simp; (try (simp only [↓IntWalk.iteOmega]; try go_simp)); (try simp (disch := omega) only [IntWalk.i64_in]); (try simp (disch := omega) only [IntWalk.u64_in]); first | (refine hK _ ?_; clear hK K) | (apply Exists.intro; refine ⟨fun x => ?_, hK _ ?_⟩; (first | fail); clear hK K))) | ((first | apply gAsk_no1 | apply gAsk_no2); kernel_rfl; intro K hK; simp [go_sem]; refine hK _ ?_; clear hK K) | (apply gAsk_part; kernel_rfl; all_goals (intro h K hK; (try simp only [Bool.not_true] at h); (try simp only [Bool.not_false] at h); (try simp only [decide_eq_true_eq] at h); (try simp only [decide_eq_false_iff_not] at h); first | (exfalso; first | contradiction | omega) | (go_simp; (try (simp only [↓IntWalk.iteOmega]; try go_simp)); (try simp (disch := omega) only [IntWalk.i64_in]); (try simp (disch := omega) only [IntWalk.u64_in]); first | (refine hK _ ?_; clear hK K) | (apply Exists.intro; refine ⟨fun x => ?_, hK _ ?_⟩; (first | fail); clear hK K))))))); all_goals ((apply gLex_end); intro x5))
            go_wp2
            obtain ⟨z, ez, hoz⟩ := (show Own x5.now _ _ _ _ _ _ _ from HO.out.grows GG).putS (w0 := x1.now) (j := e * 3 + 2) GG (by omega) (.int .u64 x)
            rw [esCells_setW] at hoz
            refine ⟨⟨k + 1, by omega, by go_num, z, ez, by rw [HN.out]; exact hoz, ?_, ?_, HJ2⟩, by simp [Go.RowKit.intOf]; omega⟩
            · rw [← ez]
              exact (inferInstance : Holds x5.now _ _).other _ (by show g ≠ x2.now.heap.size; omega)
            · rw [← ez]
              exact (inferInstance : Holds x5.now _ _).other _ (by show g ≠ x2.now.heap.size; omega)
  · have HV := hide (ap_not (L := L) hr)
    have hr2 : (rightF N E == 0) = false := beq_eq_false_iff_ne.2 hr
    have H1 := hide C1
    clear C1 hr h hc
    go_enter Try.func39, Try.ntmps39
    go_wp2_with fail
    go_step3
    go_wp2_with (first | (go_at_call 51; refine (H1.out _ GG).mono ?_; rintro e w' ⟨rfl, hg⟩; (first | obtain ⟨x, rfl⟩ := Grows.later2 hg | obtain ⟨x, rfl⟩ := Grows.later hg); clear hg))
    rw [Exit.noGoto_ret]
    refine bodyPost_ret (v := .tuple #[.agg #[.int .i64 0, .slice none 0 0], .int .i64 0, .int .i64 1]) (by simp (maxDischargeDepth := 6) [results, Try.results39, go_sem, *]) rfl ?_
    obtain ⟨v1, v2, v3, v4⟩ := HV.out
    rw [v1, v2, v3, v4]
    exact ⟨none, 0, rfl, Rd.none0 _ _, (fun _ _ h => (by cases h)), GG⟩
theorem chApply (N : Int) (A : Option Addr) (n c : Nat) (E : List Edg) (B : Option Addr) (m d : Nat) (L : List Chg) (w : World) (h : Rd w A 3 n (esCells E)) (hn : n ≤ 1000000) (hc : Rd w B 2 m (csCells L)) (hm : m ≤ 1000000) :
    Calls Try.prog 39 #[.agg #[.int .i64 N, .slice A n c], .slice B m d] w (GiveA w (apN N E L) (apL N E L) (apI N E L) (apF N E L)) :=
  (chApplyF N A n c E B m d L w h hn hc hm).mono fun _ _ ⟨A, c, h1, h2, _, h3⟩ => ⟨A, c, h1, h2, h3⟩
end Go.Proofs.Ytgplpgldhoelcaa

namespace Go.Proofs.Ytgplpgldhoelcaa
open Go Go.RowKit
attribute [local go_sem] Oper.semAt_some
theorem bdK_no {m : Nat} : ∀ {L : List Chg}, bdK m L < L.length → chB m (gc L (bdK m L)) = false
  | [], h => absurd h (by simp [bdK])
  | c :: L, h => by
    cases hc : chB m c with
    | false =>
      have e : bdK m (c :: L) = 0 := by unfold bdK; rw [List.takeWhile_cons, hc]; rfl
      rw [e]
      exact hc
    | true =>
      have e : bdK m (c :: L) = bdK m L + 1 := by unfold bdK; rw [List.takeWhile_cons, hc]; rfl
      rw [e] at h ⊢
      exact bdK_no (m := m) (L := L) (by simpa using h)
theorem ap_cases {N : Int} {E : List Edg} {L : List Chg} (hr : rightF N E = 0) : apF N E L ≠ 0 ∨ (apN N E L = N ∧ apL N E L = apE E L L.length ∧ apI N E L = 0 ∧ apF N E L = 0 ∧ rightF N (apE E L L.length) = 0) := by
  rcases Nat.lt_or_ge (bdK E.length L) L.length with h | h
  · refine .inl ?_
    rw [(ap_bad hr h (fun j hj => bdK_ok hj) (bdK_no h)).2.2.2]
    exact of_decide_eq_false (bdK_no h)
  · have hj : ∀ j, j < L.length → chB E.length (gc L j) = true := fun j hj => bdK_ok (Nat.lt_of_lt_of_le hj h)
    obtain ⟨h1, h2, h3, h4⟩ := ap_all hr hj
    exact .inr ⟨h1, h2, h3, h4, right_ap hr _ hj⟩
theorem coRB_ofA {p q : Int} {l l' : List Int} (h : coRB p q l = true) (h' : rkB l' = true) : coRB p q l' = true := by
  unfold coRB at h ⊢
  simp only [Bool.and_eq_true, decide_eq_true_eq] at h ⊢
  exact ⟨h.1, h'⟩
theorem rkB_invA {k p q : Nat} {E : List Edg} {r vs : List Nat} (hok : rightF (k : Int) E = 0) (hk : k ≤ 12) (hE : E.length ≤ 40) (hi : InvR k r vs) : rkB (nvI r) = true ∧ (nvI r).length = k ∧ ((blt k p q E vs).map Sc.si).length ≤ 1000000 := by
  obtain ⟨b1, b2, b3⟩ := built_ok (hops := p) (settles := q) hok hk hE hi
  have h3 : ((blt k p q E vs).map Sc.si).length ≤ 1000000 := by rw [List.length_map]; exact Nat.le_trans b3 (by omega)
  unfold madeSB at b1
  simp only [Bool.and_eq_true, decide_eq_true_eq] at b1
  exact ⟨b1.2.1, by have := b1.1; omega, h3⟩
set_option maxHeartbeats 2000000 in
theorem chAgainNil (A : Option Addr) (n c : Nat) (hops settles : Int) (B : Option Addr) (m d : Nat) (w : World) :
    Calls Try.prog 13 #[.pointer none, .slice A n c, .agg #[.int .i64 hops, .int .i64 settles, .slice B m d]] w fun e w' => e = .returned (.tuple #[.pointer none, .int .i64 0, .int .i64 1]) ∧ Grows w w' := by
  go_enter Try.func13, Try.ntmps13
  go_wp2_with fail
  exact bodyPost_ret (v := .tuple #[.pointer none, .int .i64 0, .int .i64 1]) (by simp (maxDischargeDepth := 6) [results, Try.results13, go_sem]) rfl ⟨rfl, GG⟩
set_option maxHeartbeats 2000000 in
theorem chAgainOpt (p : Addr) (A : Option Addr) (n c : Nat) (hops settles : Int) (B : Option Addr) (m d : Nat) (l : List Int) (w : World) (hl : Rd w B 1 m (l.map (.int .i64))) (hm : m ≤ 1000000) (hbad : coRB hops settles l = false) :
    Calls Try.prog 13 #[.pointer (some p), .slice A n c, .agg #[.int .i64 hops, .int .i64 settles, .slice B m d]] w fun e w' => e = .returned (.tuple #[.pointer none, .int .i64 0, .int .i64 1]) ∧ Grows w w' := by
  have C1 := hide (fun (W : World) (g : Grows w W) => coRight hops settles B m d l W (hl.grows g) hm)
  rw [hbad] at C1
  clear hl hbad
  go_enter Try.func13, Try.ntmps13
  go_wp2_with (go_at_call 41; refine (C1.out _ GG).mono ?_; rintro e w' ⟨rfl, hg⟩; obtain ⟨x1, rfl⟩ := hg.later; clear hg)
  exact bodyPost_ret (v := .tuple #[.pointer none, .int .i64 0, .int .i64 1]) (by simp (maxDischargeDepth := 6) [results, Try.results13, go_sem]) rfl ⟨rfl, GG⟩
set_option maxHeartbeats 4000000 in
theorem chAgainBad (b N : Nat) (E : List Edg) (r : List Nat) (S : List SI) (A : Option Addr) (n c : Nat) (L : List Chg) (hops settles : Int) (B : Option Addr) (m d : Nat) (l : List Int) (w : World) (h : HiAt w b N E r S) (hE : E.length ≤ 1000000) (hc : Rd w A 2 n (csCells L)) (hn : n ≤ 1000000) (hl : Rd w B 1 m (l.map (.int .i64))) (hm : m ≤ 1000000) (hco : coRB hops settles l = true) (hbad : apF N E L ≠ 0) :
    Calls Try.prog 13 #[.pointer (some ⟨b, 0, none⟩), .slice A n c, .agg #[.int .i64 hops, .int .i64 settles, .slice B m d]] w fun e w' => e = .returned (.tuple #[.pointer none, .int .i64 (apI N E L), .int .i64 (apF N E L)]) ∧ Grows w w' := by
  have C1 := hide (fun (W : World) (g : Grows w W) => coRight hops settles B m d l W (hl.grows g) hm)
  rw [hco] at C1
  have C2 := hide (fun (W : World) (g : Grows w W) => hiGraph b N E r S W (h.grow g) hE)
  unfold GiveGR at C2
  have C3 := hide (fun (A1 : Option Addr) (c1 : Nat) (W : World) (g : Grows w W) (h1 : Rd W A1 3 E.length (esCells E)) => chApplyF (N : Int) A1 E.length c1 E A n c L W h1 hE (hc.grows g) hn)
  unfold GiveAF at C3
  have hb : ((apF N E L) != 0) = true := by simpa using hbad
  generalize apF N E L = f4 at *
  generalize apI N E L = i4 at *
  generalize apN N E L = N4 at *
  generalize apL N E L = E4 at *
  clear h hc hl hco hbad
  go_enter Try.func13, Try.ntmps13
  go_wp2_with (first
    | (go_at_call 41; refine (C1.out _ GG).mono ?_; rintro e w' ⟨rfl, hg⟩; obtain ⟨x1, rfl⟩ := hg.later; clear hg)
    | (go_at_call 23; refine (C2.out _ GG).mono ?_; rintro e w' ⟨A1, c1, rfl, h1, hg⟩; obtain ⟨x2, rfl⟩ := hg.later; have H1 := hide h1; clear h1 hg)
    | (go_at_call 39; refine (C3.out _ _ _ GG (H1.out.grows GG)).mono ?_; rintro e w' ⟨A2, c2, rfl, _, _, hg⟩; obtain ⟨x3, rfl⟩ := hg.later; clear hg))
  exact bodyPost_ret (v := .tuple #[.pointer none, .int .i64 i4, .int .i64 f4]) (by simp (maxDischargeDepth := 6) [results, Try.results13, go_sem]) rfl ⟨rfl, GG⟩
theorem Rd.setE {w : World} {A : Option Addr} {n B : Nat} {xs : List Value} (h : Rd w A 3 n xs) (hf : ∀ b off, A = some ⟨b, off, none⟩ → 0 < n → B ≤ b) {q : Addr} (hq : q.block < B) (u : Value) : Rd (w.setCell q u) A 3 n xs :=
  ⟨h.1, fun h1 h2 => by
    obtain ⟨g, off, e, hc⟩ := h.2 h1 h2
    have hb := hf g off e h1
    refine ⟨g, off, e, fun j v hv => ?_⟩
    rw [← hc j v hv]
    exact World.cell?_of_block (w := w) (heap_setCell w q u g (by omega))⟩
def GiveAg (w : World) (k p q : Nat) (E : List Edg) (r : List Nat) (e : Ending) (w' : World) : Prop :=
  ∃ b r2 vs2, e = .returned (.tuple #[.pointer (some ⟨b, 0, none⟩), .int .i64 0, .int .i64 0]) ∧ InvR k r2 vs2 ∧ nvI r2 = nvI r ∧ HiAt w' b k E r2 ((blt k p q E vs2).map Sc.si) ∧ Grows w w'
set_option maxRecDepth 20000 in
set_option maxHeartbeats 8000000 in
theorem chAgain (b k : Nat) (E : List Edg) (r : List Nat) (S : List SI) (A : Option Addr) (n c : Nat) (L : List Chg) (p q : Nat) (B : Option Addr) (m d : Nat) (l : List Int) (w : World) (h : HiAt w b k E r S) (hS : S.length ≤ 1000000) (hk : k ≤ 12) (hk1 : 1 ≤ k) (hE : E.length ≤ 40) (hr : rkB (nvI r) = true) (hrl : (nvI r).length = k) (hc : Rd w A 2 n (csCells L)) (hn : n ≤ 1000000) (hl : Rd w B 1 m (l.map (.int .i64))) (hm : m ≤ 1000000) (hco : coRB (p : Int) (q : Int) l = true)
    (h1 : apN k E L = k) (h2 : apL k E L = apE E L L.length) (h3 : apI k E L = 0) (h4 : apF k E L = 0) (h5 : rightF (k : Int) (apE E L L.length) = 0) :
    Calls Try.prog 13 #[.pointer (some ⟨b, 0, none⟩), .slice A n c, .agg #[.int .i64 (p : Int), .int .i64 (q : Int), .slice B m d]] w (GiveAg w k p q (apE E L L.length) r) := by
  have C1 := hide (fun (W : World) (g : Grows w W) => coRight (p : Int) (q : Int) B m d l W (hl.grows g) hm)
  rw [hco] at C1
  have C2 := hide (fun (W : World) (g : Grows w W) => hiGraph b k E r S W (h.grow g) (by omega))
  unfold GiveGR at C2
  have C3 := hide (fun (A1 : Option Addr) (c1 : Nat) (W : World) (g : Grows w W) (h1 : Rd W A1 3 E.length (esCells E)) => chApplyF (k : Int) A1 E.length c1 E A n c L W h1 (by omega) (hc.grows g) hn)
  unfold GiveAF at C3
  rw [h1, h2, h3, h4] at C3
  have hel : (apE E L L.length).length = E.length := apE_len _ _ _
  rw [hel] at C3
  have C4 := hide (fun (W : World) (g : Grows w W) => hiHierarchyO b k E r S W (h.grow g) (by omega) hS)
  unfold GiveHO at C4
  have C5 := hide (fun (A2 : Option Addr) (c2 : Nat) (B2 : Option Addr) (d2 : Nat) (W : World) (g1 : Rd W A2 3 E.length (esCells (apE E L L.length))) (g2 : Rd W B2 1 k (nv r)) => hiBuilt k A2 E.length c2 (apE E L L.length) p q B2 k d2 (nvI r) W g1 h5 (by rw [← nvI_vals]; exact g2) (coRB_ofA hco hr) hk hE (.inr rfl))
  unfold GiveHB at C5
  have FH := field_hR
  have hel2 := hide hel
  clear h hc hl hco h1 h2 h3 h4 h5 hel hr hrl hS
  unfold GiveAg
  generalize apE E L L.length = E4 at *
  go_enter Try.func13, Try.ntmps13
  go_wp2_with (first
    | (go_at_call 41; refine (C1.out _ GG).mono ?_; rintro e w' ⟨rfl, hg⟩; obtain ⟨x1, rfl⟩ := hg.later; clear hg)
    | (go_at_call 23; refine (C2.out _ GG).mono ?_; rintro e w' ⟨A1, c1, rfl, h1, hg⟩; obtain ⟨x2, rfl⟩ := hg.later; have H1 := hide h1; clear h1 hg)
    | (go_at_call 39; refine (C3.out _ _ _ GG (H1.out.grows GG)).mono ?_; rintro e w' ⟨A2, c2, rfl, h2, hf2, hg⟩; obtain ⟨x3, rfl⟩ := hg.later; have H2 := hide h2; have HF2 := hide hf2; clear h2 hf2 hg)
    | (go_at_call 20; refine (C4.out _ GG).mono ?_; rintro e w' ⟨B9, d9, A9, c9, rfl, h9, _, _, hg⟩; obtain ⟨x4, rfl⟩ := hg.later; have H9 := hide h9; clear h9 hg))
  have hz1 := x1.size
  have hz2 := x2.size
  have hz3 := x3.size
  simp at hz1 hz3
  have hgr : Grows w (x4.now.setCell ⟨w.heap.size, 2, none⟩ (.slice B9 k d9)) := GG
  have r2 : Rd (x4.now.setCell ⟨w.heap.size, 2, none⟩ (.slice B9 k d9)) A2 3 E.length (esCells E4) := (H2.out.grows (show Grows x3.now x4.now from GG)).setE (B := x2.now.heap.size) (fun b off e h0 => HF2.out b off e h0) (q := ⟨w.heap.size, 2, none⟩) (show w.heap.size < x2.now.heap.size by omega) _
  have r9 : Rd (x4.now.setCell ⟨w.heap.size, 2, none⟩ (.slice B9 k d9)) B9 1 k (nv r) := (H9.out.low (q := ⟨w.heap.size, 2, none⟩) (by simp; omega) _).rd
  refine (C5.out A2 c2 B9 d9 _ r2 r9).mono ?_
  rintro e w' ⟨b2, r2', vs2, rfl, hI, hrk, hh, hg⟩
  obtain ⟨x5, rfl⟩ := (hgr.trans hg).later
  have HX := hide (And.intro hI (And.intro hrk hh))
  clear hI hrk hh hg hgr r2 r9
  go_wp2_with fail
  exact bodyPost_ret (v := .tuple #[.pointer (some ⟨b2, 0, none⟩), .int .i64 0, .int .i64 0]) (by simp (maxDischargeDepth := 6) [results, Try.results13, go_sem]) rfl ⟨b2, r2', vs2, rfl, HX.out.1, HX.out.2.1 hk1, HX.out.2.2, GG⟩
end Go.Proofs.Ytgplpgldhoelcaa

namespace Go.Proofs.Ytgplpgldhoelcaa
open Go Go.RowKit
def edgL (S : List SI) : Nat → Nat → List Int
  | 0, _ => []
  | f + 1, i => if 0 ≤ (gsi S i).e then [(gsi S i).e] else edgL S f (gsi S i).a.toNat ++ edgL S f (gsi S i).b.toNat
def hgs (S : List SI) (e : Int) : Nat → List Bool
  | 0 => []
  | i + 1 => hgs S e i ++ [if 0 ≤ (gsi S i).e then decide ((gsi S i).e = e) else (hgs S e i).getD (gsi S i).a.toNat false || (hgs S e i).getD (gsi S i).b.toNat false]
theorem hgs_len (S : List SI) (e : Int) : ∀ k, (hgs S e k).length = k
  | 0 => rfl
  | k + 1 => by unfold hgs; rw [List.length_append, hgs_len S e k]; rfl
structure HgOk (S : List SI) (r : List Int) (n N : Nat) : Prop where
  low : ∀ i, i < n → 0 ≤ (gsi S i).e ∨ ((gsi S i).e < 0 ∧ (0 ≤ (gsi S i).a ∧ (gsi S i).a < i) ∧ 0 ≤ (gsi S i).b ∧ (gsi S i).b < i)
  top : ∀ i, i < n → (gsi S i).e < 0 → (gsi S (gsi S i).a.toNat).f = (gsi S i).f ∧ (gsi S (gsi S i).a.toNat).t = (gsi S (gsi S i).b.toNat).f ∧ (gsi S (gsi S i).b.toNat).t = (gsi S i).t ∧ gi r (gsi S (gsi S i).a.toNat).t.toNat < gi r (gsi S i).f.toNat ∧ gi r (gsi S (gsi S i).a.toNat).t.toNat < gi r (gsi S i).t.toNat
  rk : ∀ i, i < n → (0 ≤ gi r (gsi S i).f.toNat ∧ gi r (gsi S i).f.toNat < N) ∧ 0 ≤ gi r (gsi S i).t.toNat ∧ gi r (gsi S i).t.toNat < N
theorem edgL_fuel {S : List SI} {r : List Int} {n N : Nat} (h : HgOk S r n N) : ∀ f i, i < n → i < f → edgL S f i = edgL S (i + 1) i := by
  intro f i hi hf
  induction i using Nat.strongRecOn generalizing f with
  | _ i ih =>
    obtain ⟨g, rfl⟩ : ∃ g, f = g + 1 := ⟨f - 1, by omega⟩
    unfold edgL
    by_cases he : 0 ≤ (gsi S i).e
    · rw [if_pos he, if_pos he]
    · rw [if_neg he, if_neg he]
      rcases h.low i hi with h1 | ⟨_, ⟨a1, a2⟩, b1, b2⟩
      · exact absurd h1 he
      · rw [ih (gsi S i).a.toNat (by omega) g (by omega) (by omega), ih (gsi S i).b.toNat (by omega) g (by omega) (by omega), ih (gsi S i).a.toNat (by omega) i (by omega) (by omega), ih (gsi S i).b.toNat (by omega) i (by omega) (by omega)]
theorem hgs_get {S : List SI} {e : Int} : ∀ k i, i < k → (hgs S e k).getD i false = (hgs S e (i + 1)).getD i false
  | 0, i, h => absurd h (by omega)
  | k + 1, i, h => by
    by_cases e1 : i = k
    · subst e1; rfl
    · have : (hgs S e (k + 1)).getD i false = (hgs S e k).getD i false := by
        conv => lhs; unfold hgs
        rw [List.getD_eq_getElem?_getD, List.getD_eq_getElem?_getD, List.getElem?_append_left (by rw [hgs_len]; omega), List.getD_eq_getElem?_getD]
      rw [this]
      exact hgs_get k i (by omega)
theorem hgs_at (S : List SI) (e : Int) (i : Nat) : (hgs S e (i + 1)).getD i false = (if 0 ≤ (gsi S i).e then decide ((gsi S i).e = e) else (hgs S e i).getD (gsi S i).a.toNat false || (hgs S e i).getD (gsi S i).b.toNat false) := by
  conv => lhs; unfold hgs
  rw [List.getD_eq_getElem?_getD, List.getElem?_append_right (by rw [hgs_len]; omega), hgs_len, Nat.sub_self]
  rfl
theorem hgs_mem {S : List SI} {r : List Int} {n N : Nat} (h : HgOk S r n N) (e : Int) : ∀ i, i < n → decide (e ∈ edgL S (i + 1) i) = (hgs S e (i + 1)).getD i false := by
  intro i hi
  induction i using Nat.strongRecOn with
  | _ i ih =>
    rw [hgs_at]
    by_cases he : 0 ≤ (gsi S i).e
    · rw [if_pos he]
      have e1 : edgL S (i + 1) i = [(gsi S i).e] := by
        conv => lhs; unfold edgL
        rw [if_pos he]
      rw [e1]
      exact decide_eq_decide.2 (by simp [eq_comm])
    · rw [if_neg he]
      rcases h.low i hi with h1 | ⟨_, ⟨a1, a2⟩, b1, b2⟩
      · exact absurd h1 he
      · have e1 : edgL S (i + 1) i = edgL S i (gsi S i).a.toNat ++ edgL S i (gsi S i).b.toNat := by
          conv => lhs; unfold edgL
          rw [if_neg he]
        rw [e1, edgL_fuel h i _ (by omega) (by omega), edgL_fuel h i (gsi S i).b.toNat (by omega) (by omega), hgs_get i _ (by omega), hgs_get i (gsi S i).b.toNat (by omega), ← ih _ (by omega) (by omega), ← ih (gsi S i).b.toNat (by omega) (by omega)]
        rw [← Bool.decide_or]
        exact decide_eq_decide.2 List.mem_append
theorem edgL_len {S : List SI} {r : List Int} {n N : Nat} (h : HgOk S r n N) : ∀ i, i < n → (edgL S (i + 1) i).length ≤ 2 ^ (gi r (gsi S i).f.toNat).toNat ∧ (edgL S (i + 1) i).length ≤ 2 ^ (gi r (gsi S i).t.toNat).toNat := by
  intro i hi
  induction i using Nat.strongRecOn with
  | _ i ih =>
    by_cases he : 0 ≤ (gsi S i).e
    · have e1 : edgL S (i + 1) i = [(gsi S i).e] := by
        conv => lhs; unfold edgL
        rw [if_pos he]
      rw [e1]
      exact ⟨Nat.one_le_two_pow, Nat.one_le_two_pow⟩
    · rcases h.low i hi with h1 | ⟨e0, ⟨a1, a2⟩, b1, b2⟩
      · exact absurd h1 he
      · have e1 : edgL S (i + 1) i = edgL S i (gsi S i).a.toNat ++ edgL S i (gsi S i).b.toNat := by
          conv => lhs; unfold edgL
          rw [if_neg he]
        obtain ⟨t1, t2, t3, t4, t5⟩ := h.top i hi e0
        have ha := (ih (gsi S i).a.toNat (by omega) (by omega)).2
        have hb := (ih (gsi S i).b.toNat (by omega) (by omega)).1
        rw [← t2] at hb
        have rv := (h.rk (gsi S i).a.toNat (by omega)).2
        have rf := (h.rk i hi).1
        have rt := (h.rk i hi).2
        rw [e1, edgL_fuel h i _ (by omega) (by omega), edgL_fuel h i (gsi S i).b.toNat (by omega) (by omega), List.length_append]
        generalize gi r (gsi S (gsi S i).a.toNat).t.toNat = x at *
        generalize gi r (gsi S i).f.toNat = y at *
        generalize gi r (gsi S i).t.toNat = z at *
        have p1 : 2 ^ (x.toNat + 1) ≤ 2 ^ y.toNat := Nat.pow_le_pow_right (by omega) (by omega)
        have p2 : 2 ^ (x.toNat + 1) ≤ 2 ^ z.toNat := Nat.pow_le_pow_right (by omega) (by omega)
        rw [Nat.pow_succ] at p1 p2
        omega
end Go.Proofs.Ytgplpgldhoelcaa

namespace Go.Proofs.Ytgplpgldhoelcaa
open Go Go.RowKit
theorem hgOk_of {N : Int} {E : List Edg} {l : List Int} {S : List SI} (hok : rightF N E = 0) (h : madeSB N E l S = true) : HgOk S l S.length l.length := by
  unfold madeSB at h
  simp only [Bool.and_eq_true, decide_eq_true_eq] at h
  obtain ⟨h1, h2, h3⟩ := h
  have he := made_ends hok h1 S.length h3
  have hr := (rkB_of h2).2
  have hg : ∀ x : Int, 0 ≤ x → x < l.length → 0 ≤ gi l x.toNat ∧ gi l x.toNat < l.length := fun x x0 x1 => by
    have hx : x.toNat < l.length := by omega
    have : gi l x.toNat ∈ l := by
      have e : gi l x.toNat = l[x.toNat] := by simp [gi, List.getD_eq_getElem?_getD, hx]
      rw [e]
      exact List.getElem_mem hx
    exact hr _ this
  have hcase : ∀ i, i < S.length → (0 ≤ (gsi S i).e) ∨ twoSB l S i = true := fun i hi => by
    have hm := h3 i hi
    unfold madeOne at hm
    rw [Bool.or_eq_true] at hm
    rcases hm with hm | hm
    · unfold edgeSB at hm
      simp only [Bool.and_eq_true, decide_eq_true_eq] at hm
      exact .inl hm.1.1
    · exact .inr hm
  refine ⟨fun i hi => ?_, fun i hi e0 => ?_, fun i hi => ?_⟩
  · rcases hcase i hi with e0 | ht
    · exact .inl e0
    · unfold twoSB at ht
      simp only [Bool.and_eq_true, decide_eq_true_eq] at ht
      obtain ⟨⟨q1, q2, q3, q4, q5, _⟩, _⟩ := ht
      exact .inr ⟨by omega, ⟨q2, q3⟩, q4, q5⟩
  · rcases hcase i hi with e1 | ht
    · omega
    · unfold twoSB at ht
      simp only [Bool.and_eq_true, decide_eq_true_eq] at ht
      obtain ⟨_, ⟨q1, q2, q3, _⟩, q5, q6⟩ := ht
      exact ⟨q1, q2, q3, q5, q6⟩
  · obtain ⟨⟨f0, f1⟩, t0, t1⟩ := he i hi
    exact ⟨hg _ f0 f1, hg _ t0 t1⟩
end Go.Proofs.Ytgplpgldhoelcaa

namespace Go.Proofs.Ytgplpgldhoelcaa
open Go Go.RowKit
attribute [local go_sem] Oper.semAt_some
set_option maxRecDepth 20000 in
set_option maxHeartbeats 4000000 in
theorem r1Join (A : Option Addr) (n c : Nat) (l : List Int) (B : Option Addr) (m d : Nat) (l' : List Int) (w : World) (h : Rd w A 1 n (l.map (.int .i64))) (hn : n ≤ 1000000) (h' : Rd w B 1 m (l'.map (.int .i64))) (hm : m ≤ 1000000) :
    Calls Try.prog 85 #[.slice A n c, .slice B m d] w fun e w' => ∃ A' c', e = .returned (.slice A' (n + m) c') ∧ Rd w' A' 1 (n + m) ((l ++ l').map (.int .i64)) ∧ Grows w w' := by
  have HL := hide (show l.length = n by simpa using h.len)
  have HM := hide (show l'.length = m by simpa using h'.len)
  have HR := hide h
  have HR2 := hide h'
  clear h h'
  go_enter Try.func85, Try.ntmps85
  go_wp2_with fail
  go_loopw [5, 6] (fun s9 i wr => ∃ k : Nat, k ≤ n ∧ i = .int .i64 (k : Int) ∧ ∃ A9 c9, s9 = .slice A9 k c9 ∧ ∃ y : Later w, wr = y.now ∧ Own y.now w.heap.size 3 1 A9 k c9 ((l.take k).map (.int .i64))) (fun s9 i _ => n - (Go.RowKit.intOf i).toNat)
  case atStart => exact ⟨0, by omega, by go_num, none, 0, rfl, ⟨_, GG⟩, rfl, Own.nil _ _ _ _⟩
  case round =>
    obtain ⟨k, hk, rfl, A9, c9, rfl, y, rfl, ho⟩ := hrel
    have HO := hide ho
    clear ho
    by_cases hlt : k < n
    · obtain ⟨bb, off, rfl, hcc⟩ := HR.out.intsH (by omega)
      have c1 := hcc k hlt
      have HT := hide (take_gi (l := l) (k := k) (by rw [HL.out]; exact hlt))
      clear hcc
      generalize gi l k = x0 at *
      go_wp2_with (at_builtin; refine wp_app1 elemInt rfl _ _ rfl w GG k c9 A9 _ rfl (HO.out.grows GG) _ _ _ rfl inferInstance rfl (by omega) ?_; intro A3 c3 y3 hown3; have HO3 := hide hown3; clear hown3)
      exact ⟨⟨k + 1, by omega, by go_num, A3, c3, rfl, y3, rfl, by rw [HT.out, List.map_append]; exact HO3.out⟩, by simp [Go.RowKit.intOf]; omega⟩
    · obtain rfl : k = n := by omega
      have hz : l.take k = l := List.take_of_length_le (by rw [HL.out]; omega)
      rw [hz] at HO
      clear hz
      go_wp2_with fail
      go_loopw [5, 7] (fun s9 i wr => ∃ q : Nat, q ≤ m ∧ i = .int .i64 (q : Int) ∧ ∃ A9 c9, s9 = .slice A9 (k + q) c9 ∧ ∃ y2 : Later w, wr = y2.now ∧ Own y2.now w.heap.size 3 1 A9 (k + q) c9 ((l ++ l'.take q).map (.int .i64))) (fun s9 i _ => m - (Go.RowKit.intOf i).toNat)
      case atStart => exact ⟨0, by omega, by go_num, A9, c9, rfl, ⟨_, GG⟩, rfl, by simpa using HO.out⟩
      case round =>
        obtain ⟨q, hq, rfl, A8, c8, rfl, y2, rfl, ho⟩ := hrel
        have HP := hide ho
        clear ho
        by_cases hlq : q < m
        · obtain ⟨bb, off, rfl, hcc⟩ := HR2.out.intsH (by omega)
          have c1 := hcc q hlq
          have HT := hide (take_gi (l := l') (k := q) (by rw [HM.out]; exact hlq))
          clear hcc
          generalize gi l' q = x0 at *
          go_wp2_with (at_builtin; refine wp_app1 elemInt rfl _ _ rfl w GG (k + q) c8 A8 _ rfl (HP.out.grows GG) _ _ _ rfl inferInstance rfl (by omega) ?_; intro A3 c3 y3 hown3; have HO3 := hide hown3; clear hown3)
          exact ⟨⟨q + 1, by omega, by go_num, A3, c3, rfl, y3, rfl, by rw [HT.out, ← List.append_assoc, List.map_append]; exact HO3.out⟩, by simp [Go.RowKit.intOf]; omega⟩
        · obtain rfl : q = m := by omega
          have hz : l'.take q = l' := List.take_of_length_le (by rw [HM.out]; omega)
          rw [hz] at HP
          go_wp2_with fail
          go_ret
          exact ⟨A8, c8, rfl, by simpa using HP.out.rd, GG⟩
end Go.Proofs.Ytgplpgldhoelcaa

namespace Go.Proofs.Ytgplpgldhoelcaa
open Go Go.RowKit
section
variable {P : Program} {w0 : World} {ops : Array Oper} {Q : Act → Env → Prop} {a : Act} {G : Env} {o : Oper} {rest : List Oper}
def depB (ops : Array Oper) (o : Oper) (G : Env) (t0 : Tmp) : Bool :=
  ((o.looksAt ops).all fun t => t == t0 || (G t).isNone) && (o.looksAt ops).contains t0 && (match o.dst with | some d => (G d).isNone | none => true) && (match o.op with | .select .. => false | _ => true) &&
    (match o.guard with | some (g, _) => (match (ops[g]?).bind (·.dst) with | some t => t != t0 | none => true) | none => true)
theorem dep_spec {t0 : Tmp} (h : depB ops o G t0 = true) : guardFree ops o G ∧ dstFree o G ∧ (∀ t ∈ o.looksAt ops, t = t0 ∨ G t = none) ∧ t0 ∈ o.looksAt ops ∧ ∀ cs b, o.op ≠ .select cs b := by
  unfold depB at h
  simp only [Bool.and_eq_true, List.all_eq_true, Bool.or_eq_true, Option.isNone_iff_eq_none, beq_iff_eq, List.contains_iff_mem] at h
  obtain ⟨⟨⟨⟨h1, h2⟩, h3⟩, h4⟩, h5⟩ := h
  refine ⟨fun g b t e1 e2 => ?_, fun d e => ?_, h1, h2, fun cs b e => ?_⟩
  · rcases h1 t (mem_looks_guard e1 e2) with e | e
    · rw [e1] at h5
      simp only [e2] at h5
      subst e
      simp at h5
    · exact e
  · rw [e] at h3; simpa using h3
  · rw [e] at h4; simp at h4
theorem gLex_dep {t0 t : Tmp} {p0 : Pr} (hw : Region.wanted o (yielded ops a.tmps) = true) (hp : depB ops o G t0 = true) (h0 : G t0 = some p0) (ht0 : t0 < a.tmps.size) (hd : o.dst = some t) (hlt : t < a.tmps.size)
    (p : Pr) (hl : Lasts p) (hr : ∀ (x : Later w0) (v : Value), p0 v x.now → runsTo P (fun u w' => Grows x.now w' ∧ p u w') ((execOp (a.put (some t0) v).eval o).run P x.now))
    (h : gLex P ops w0 Q rest a (G.upd t p)) : gLex P ops w0 Q (o :: rest) a G := by
  obtain ⟨h1, h2, h3, h4, h5⟩ := dep_spec hp
  refine ⟨.inr p, ⟨h1, h2, .inl ⟨hw, hl, ⟨t, hd, hlt⟩, fun w hw a' ha' => ?_⟩⟩, ?_⟩
  · have hv := ha' t0 h4
    unfold relAt at hv
    rw [h0] at hv
    obtain ⟨v, hv, hpv⟩ := hv
    have e : execOp a'.eval o = execOp (a.put (some t0) v).eval o := by
      refine execOp_congr o h5 fun x hx => ?_
      cases x with
      | tmp t =>
        have ht : t ∈ o.looksAt ops := List.mem_append_left _ (List.mem_filterMap.2 ⟨.tmp t, by simpa using hx, rfl⟩)
        have h' : a'.tmps[t]? = (a.put (some t0) v).tmps[t]? := by
          by_cases e : t = t0
          · subst e
            rw [hv]
            simp [Act.put, ht0]
          · have h6 := ha' t ht
            unfold relAt at h6
            rw [(h3 t ht).resolve_left e] at h6
            rw [h6]
            simp [Act.put, Array.getElem?_setIfInBounds_ne (Ne.symm e)]
        simp only [Act.eval, Array.getD_eq_getD_getElem?, h']
      | _ => rfl
    rw [e]
    exact hr ⟨w, hw⟩ v hpv
  · rw [hd]
    exact h
end
def RowP (n : Nat) (xs : List Value) : Pr := fun u w => ∃ A c, u = .slice A n c ∧ Rd w A 1 n xs
theorem RowP.lasts (n : Nat) (xs : List Value) : Lasts (RowP n xs) := fun _ _ _ hg ⟨A, c, e, h⟩ => ⟨A, c, e, h.grows hg⟩
end Go.Proofs.Ytgplpgldhoelcaa

namespace Go.Proofs.Ytgplpgldhoelcaa
open Go Go.RowKit
section
variable {P : Program} {w0 : World} {ops : Array Oper} {Q : Act → Env → Prop} {a : Act} {G : Env} {o : Oper} {rest : List Oper}
def depB2 (ops : Array Oper) (o : Oper) (G : Env) (t1 t2 : Tmp) : Bool :=
  ((o.looksAt ops).all fun t => t == t1 || t == t2 || (G t).isNone) && (o.looksAt ops).contains t1 && (o.looksAt ops).contains t2 && (match o.dst with | some d => (G d).isNone | none => true) && (match o.op with | .select .. => false | _ => true) &&
    (match o.guard with | some (g, _) => (match (ops[g]?).bind (·.dst) with | some t => t != t1 && t != t2 | none => true) | none => true)
theorem dep_spec2 {t1 t2 : Tmp} (h : depB2 ops o G t1 t2 = true) : guardFree ops o G ∧ dstFree o G ∧ (∀ t ∈ o.looksAt ops, t = t1 ∨ t = t2 ∨ G t = none) ∧ t1 ∈ o.looksAt ops ∧ t2 ∈ o.looksAt ops ∧ ∀ cs b, o.op ≠ .select cs b := by
  unfold depB2 at h
  simp only [Bool.and_eq_true, List.all_eq_true, Bool.or_eq_true, Option.isNone_iff_eq_none, beq_iff_eq, List.contains_iff_mem] at h
  obtain ⟨⟨⟨⟨⟨h1, h2⟩, h2'⟩, h3⟩, h4⟩, h5⟩ := h
  refine ⟨fun g b t e1 e2 => ?_, fun d e => ?_, fun t ht => (by rcases h1 t ht with (e | e) | e; exact .inl e; exact .inr (.inl e); exact .inr (.inr e)), h2, h2', fun cs b e => ?_⟩
  · rcases h1 t (mem_looks_guard e1 e2) with (e | e) | e
    · rw [e1] at h5
      simp only [e2] at h5
      subst e
      simp at h5
    · rw [e1] at h5
      simp only [e2] at h5
      subst e
      simp at h5
    · exact e
  · rw [e] at h3; simpa using h3
  · rw [e] at h4; simp at h4
theorem dep_exec2 {a' : Act} {t1 t2 : Tmp} {v1 v2 : Value} (h5 : ∀ cs b, o.op ≠ .select cs b) (ht1 : t1 < a.tmps.size) (ht2 : t2 < a.tmps.size) (hne : t1 ≠ t2) (hv1 : a'.tmps[t1]? = some v1) (hv2 : a'.tmps[t2]? = some v2) (h : ∀ t ∈ o.looksAt ops, t = t1 ∨ t = t2 ∨ a'.tmps[t]? = a.tmps[t]?) :
    execOp a'.eval o = execOp ((a.put (some t1) v1).put (some t2) v2).eval o := by
  refine execOp_congr o h5 fun x hx => ?_
  cases x with
  | tmp t =>
    have ht : t ∈ o.looksAt ops := List.mem_append_left _ (List.mem_filterMap.2 ⟨.tmp t, by simpa using hx, rfl⟩)
    have h' : a'.tmps[t]? = ((a.put (some t1) v1).put (some t2) v2).tmps[t]? := by
      by_cases e2 : t = t2
      · subst e2
        rw [hv2]
        simp [Act.put, ht2]
      · by_cases e : t = t1
        · subst e
          rw [hv1]
          show some v1 = (((a.tmps.setIfInBounds t v1).setIfInBounds t2 v2))[t]?
          rw [Array.getElem?_setIfInBounds_ne (Ne.symm e2)]
          simp [ht1]
        · rw [((h t ht).resolve_left e).resolve_left e2]
          simp [Act.put, Array.getElem?_setIfInBounds_ne (Ne.symm e), Array.getElem?_setIfInBounds_ne (Ne.symm e2)]
    simp only [Act.eval, Array.getD_eq_getD_getElem?, h']
  | _ => rfl
theorem gLex_depV2 {t1 t2 : Tmp} {p1 p2 : Pr} (hw : Region.wanted o (yielded ops a.tmps) = true) (hp : depB2 ops o G t1 t2 = true) (h1 : G t1 = some p1) (h2 : G t2 = some p2) (ht1 : t1 < a.tmps.size) (ht2 : t2 < a.tmps.size) (hne : t1 ≠ t2) (v : Value)
    (hr : ∀ (x : Later w0) (u1 u2 : Value), p1 u1 x.now → p2 u2 x.now → runsTo P (fun u' w' => Grows x.now w' ∧ u' = v) ((execOp ((a.put (some t1) u1).put (some t2) u2).eval o).run P x.now))
    (h : gLex P ops w0 Q rest (a.put o.dst v) G) : gLex P ops w0 Q (o :: rest) a G := by
  obtain ⟨k1, k2, k3, k4, k4', k5⟩ := dep_spec2 hp
  refine ⟨.inl v, ⟨k1, k2, .inl ⟨hw, trivial, trivial, fun w hw a' ha' => ?_⟩⟩, ?_⟩
  · have hv1 := ha' t1 k4
    have hv2 := ha' t2 k4'
    unfold relAt at hv1 hv2
    rw [h1] at hv1
    rw [h2] at hv2
    obtain ⟨u1, hv1, hp1⟩ := hv1
    obtain ⟨u2, hv2, hp2⟩ := hv2
    rw [dep_exec2 k5 ht1 ht2 hne hv1 hv2 (fun t ht => (k3 t ht).imp id (fun e => e.imp id (fun e => by
      have h6 := ha' t ht
      unfold relAt at h6
      rw [e] at h6
      exact h6)))]
    exact hr ⟨w, hw⟩ u1 u2 hp1 hp2
  · have : putG G o.dst (.inl v) = G := by cases o.dst <;> rfl
    rw [this]
    exact h
theorem gLex_propG {t : Tmp} (hw : Region.wanted o (yielded ops a.tmps) = true) (hp : plainB ops o G = true) (hd : o.dst = some t) (hlt : t < a.tmps.size)
    (p : Pr) (hl : Lasts p) (hr : ∀ x : Later w0, runsTo P (fun u w' => Grows x.now w' ∧ p u w') ((execOp a.eval o).run P x.now))
    (h : gLex P ops w0 Q rest a (G.upd t p)) : gLex P ops w0 Q (o :: rest) a G := by
  obtain ⟨h1, h2, h3, h4⟩ := plain_spec hp
  refine ⟨.inr p, ⟨h1, h2, .inl ⟨hw, hl, ⟨t, hd, hlt⟩, fun w hw a' ha' => ?_⟩⟩, ?_⟩
  · rw [exec_same h4 h3 ha']
    exact hr ⟨w, hw⟩
  · rw [hd]
    exact h
def AtB (Q : Exit → Act → World → Prop) (a : Act) (G : Env) (w' : World) : Prop := ∀ a', Conc G a a' w' → Q .normal a' w'
theorem AtB.pop {Q : Exit → Act → World → Prop} {w' : World} {t : Tmp} {p : Pr} (hG : G t = none) (ht : t < a.tmps.size) (h : ∀ v, p v w' → AtB Q (a.put (some t) v) G w') : AtB Q a (G.upd t p) w' := fun a' hc => by
  obtain ⟨v, hv⟩ := conc_upd hc ht
  rcases hv with ⟨hp, hc2⟩ | hne
  · exact h v hp a' hc2
  · exact absurd hG hne
theorem AtB.base {Q : Exit → Act → World → Prop} {w' : World} (h : Q .normal a w') : AtB Q a Env.no w' := fun a' hc => by rw [conc_no hc]; exact h
theorem gLex_endB {Q : Exit → Act → World → Prop} (h : ∀ x : Later w0, AtB Q a G x.now) : gLex P ops w0 (fun a G => ∀ w', Grows w0 w' → ∀ a', Conc G a a' w' → Q .normal a' w') [] a G := fun w' hw a' hc => h ⟨w', hw⟩ a' hc
end
def BRow (n : Nat) (L : List Bool) : Pr := fun u w => ∃ g, u = .slice (some ⟨g, 0, none⟩) n n ∧ Arr w g 4 (L.map .bool)
theorem BRow.lasts (n : Nat) (L : List Bool) : Lasts (BRow n L) := fun _ _ _ hg ⟨g, e, h⟩ => ⟨g, e, h.grow hg⟩
end Go.Proofs.Ytgplpgldhoelcaa

