/- The chapter's example; and the law CanonPaths, walked: the shortest way between any two nodes, of whatever counts, or why there is none, and its first edge. -/
import Derived.Deep.DeepCutAuto
import Derived.Shelf.Slices.CompactI
import Derived.Laws.IdiomCopy
import Derived.Shelf.RegionOpen
import Derived.Shelf.Spec.SlicesInsertGrow
import Derived.Test.YtgplpgldhoelcaaGreatQYenWays00
import Derived.Test.YtgplpgldhoelcaaGreatQYenWays01
import Derived.Test.YtgplpgldhoelcaaGreatQYenWays05
import Derived.Test.YtgplpgldhoelcaaGreatQYenWays13
import Derived.Test.YtgplpgldhoelcaaGreatQYenWays14
namespace Go.Proofs.YtgplpgldhoelcaaGreat
open Go Go.RowKit
def PathP (lo n f : Nat) (r : Int) (l : List Nat) : Pr := fun u w => ∃ A c, u = .tuple #[.agg #[.slice A n c, .int .u64 (f : Int)], .int .i64 r] ∧ Own w lo 3 1 A n c (nv l)
theorem PathP.lasts (lo n f : Nat) (r : Int) (l : List Nat) : Lasts (PathP lo n f r l) := fun _ _ _ hg ⟨A, c, e, h⟩ => ⟨A, c, e, h.grows hg⟩
def RteP (lo n f : Nat) (l : List Nat) : Pr := fun u w => ∃ A c, u = .agg #[.slice A n c, .int .u64 (f : Int)] ∧ Own w lo 3 1 A n c (nv l)
theorem RteP.lasts (lo n f : Nat) (l : List Nat) : Lasts (RteP lo n f l) := fun _ _ _ hg ⟨A, c, e, h⟩ => ⟨A, c, e, h.grows hg⟩
def BoxP (lo : Nat) (cs : List Value) : Pr := fun u w => ∃ g, u = .pointer (some ⟨g, 0, none⟩) ∧ Arr w g 53 cs ∧ lo ≤ g
theorem BoxP.lasts (lo : Nat) (cs : List Value) : Lasts (BoxP lo cs) := fun _ _ _ hg ⟨g, e, h, l⟩ => ⟨g, e, h.grow hg, l⟩
def IsP (v : Value) : Pr := fun u _ => u = v
theorem IsP.lasts (v : Value) : Lasts (IsP v) := fun _ _ _ _ h => h
end Go.Proofs.YtgplpgldhoelcaaGreat

namespace Go.Proofs.YtgplpgldhoelcaaGreat
open Go Go.RowKit
theorem rtFlat_at : ∀ (rs : List Rt) (i : Nat), (rs.flatMap rtC)[i * 2]? = (rs[i]?).map (fun r => Value.slice r.1 r.2.2.1.length r.2.1) ∧ (rs.flatMap rtC)[i * 2 + 1]? = (rs[i]?).map (fun r => Value.int .u64 (r.2.2.2 : Int))
  | [], i => by simp
  | r :: rs, 0 => by simp [rtC]
  | r :: rs, i + 1 => by
    have h := rtFlat_at rs i
    have e1 : (i + 1) * 2 = i * 2 + 2 := by omega
    rw [List.flatMap_cons, e1]
    have e2 : ∀ j, (rtC r ++ rs.flatMap rtC)[j + 2]? = (rs.flatMap rtC)[j]? := fun j => by
      rw [List.getElem?_append_right (by simp [rtC])]
      simp [rtC]
    rw [e2, show i * 2 + 2 + 1 = (i * 2 + 1) + 2 by omega, e2]
    simpa using h
theorem RtsAt.at {w : World} {B : Nat} {A : Option Addr} {c : Nat} {rs : List Rt} {ps : List (List Nat × Nat)} (h : RtsAt w B A c rs ps) {i : Nat} {r : Rt} (hi : rs[i]? = some r) :
    ∃ g, A = some ⟨g, 0, none⟩ ∧ Holds w ⟨g, i * 2, none⟩ (.slice r.1 r.2.2.1.length r.2.1) ∧ Holds w ⟨g, i * 2 + 1, none⟩ (.int .u64 (r.2.2.2 : Int)) ∧ Own w 0 3 1 r.1 r.2.2.1.length r.2.1 (nv r.2.2.1) := by
  have hl : 0 < rs.length := by
    have := (List.getElem?_eq_some_iff.1 hi).1
    omega
  obtain ⟨g, cur, rfl, _⟩ := h.own.at_ hl
  have h1 := rtFlat_at rs i
  rw [hi] at h1
  exact ⟨g, rfl, ⟨h.own.cell rfl h1.1⟩, ⟨h.own.cell rfl h1.2⟩, h.rows r (List.mem_of_getElem? hi)⟩
set_option maxRecDepth 20000 in
set_option maxHeartbeats 4000000 in
theorem r8RoutesEq (B1 B2 : Nat) (A A2 : Option Addr) (c c2 : Nat) (rs rs2 : List Rt) (ps : List (List Nat × Nat)) (w : World) (h : RtsAt w B1 A c rs ps) (h2 : RtsAt w B2 A2 c2 rs2 ps) (hn : ps.length ≤ 1000000) (hl : ∀ p, p ∈ ps → p.1.length ≤ 1000000) :
    Calls Tryz.prog 21 #[.slice A rs.length c, .slice A2 rs2.length c2] w fun e w' => e = .returned (.bool true) ∧ Grows w w' := by
  have e1 := h.len
  have e2 := h2.len
  have HH := hide h
  have HH2 := hide h2
  have HL := hide hl
  rw [e1, e2]
  have E1 := hide e1
  have E2 := hide e2
  clear h h2 hl e1 e2
  obtain ⟨n, hnn⟩ : ∃ n, ps.length = n := ⟨_, rfl⟩
  rw [hnn] at hn E1 E2 ⊢
  have HN := hide hnn
  clear hnn
  go_enter Tryz.func21, Tryz.ntmps21
  go_wp2_with fail
  go_loopw [5] (fun i wr => ∃ k : Nat, k ≤ n ∧ i = .int .i64 (k : Int) ∧ (∃ x : Later w, wr = x.now)) (fun i _ => n - (intOf i).toNat)
  case atStart => exact ⟨0, by omega, by go_num, ⟨⟨w, Grows.refl w⟩, rfl⟩⟩
  case round =>
    obtain ⟨q, hq, rfl, ⟨x, rfl⟩⟩ := hrel
    by_cases hend : n ≤ q
    · go_wp2_with fail
      go_ret
      exact ⟨rfl, GG⟩
    · obtain ⟨r, hr⟩ : ∃ r, rs[q]? = some r := ⟨rs[q]'(by have := E1.out; omega), by simp⟩
      obtain ⟨r2, hr2⟩ : ∃ r, rs2[q]? = some r := ⟨rs2[q]'(by have := E2.out; omega), by simp⟩
      have hp : ps[q]? = some (r.2.2.1, r.2.2.2) := by rw [← HH.out.eqs, List.getElem?_map, hr]; rfl
      have hp2 : ps[q]? = some (r2.2.2.1, r2.2.2.2) := by rw [← HH2.out.eqs, List.getElem?_map, hr2]; rfl
      rw [hp] at hp2
      injection hp2 with hp2
      injection hp2 with hp3 hp4
      have hlr := HL.out _ (List.mem_of_getElem? hp)
      obtain ⟨g, hA, k1, k2, o1⟩ := HH.out.at hr
      obtain ⟨g2, hA2, m1, m2, o2⟩ := HH2.out.at hr2
      subst hA hA2
      obtain ⟨A8, c8, l8, f8⟩ := r
      obtain ⟨A9, c9, l9, f9⟩ := r2
      simp only at hp3 hp4 k1 k2 m1 m2 o1 o2 hlr
      subst hp3 hp4
      have e9 : nv l8 = (l8.map fun (i : Nat) => (i : Int)).map (.int .i64) := by unfold nv; rw [List.map_map]; rfl
      have C1 := hide (fun (W1 : World) (g : Grows w W1) => show Calls Tryz.prog 24 #[.agg #[.slice A8 l8.length c8, .int .u64 (f8 : Int)], .agg #[.slice A9 l8.length c9, .int .u64 (f8 : Int)]] W1 fun e w' => e = .returned (.int .i64 0) ∧ Grows W1 w' from by
        have h1 := o1.rd.grows g
        have h2 := o2.rd.grows g
        rw [e9] at h1 h2
        exact r8CmpEq A8 l8.length c8 _ A9 c9 f8 W1 h1 hlr h2)
      clear hp hr hr2 o1 o2 e9 hlr
      go_wp2_with fail
      ((first | refine wp_region_gen2 (by kernel_rfl) (by kernel_rfl) ?_ | refine wp_region_gen (by kernel_rfl) (by kernel_rfl) ?_); (repeat' (first | (refine gLex_val0 rfl (by kernel_rfl) (fun K hK => ?_); (go_simp; (try (simp only [↓IntWalk.iteOmega]; try go_simp)); (try simp (disch := omega) only [IntWalk.i64_in]); (try simp (disch := omega) only [IntWalk.u64_in]); first | (refine hK _ ?_; clear hK K) | (apply Exists.intro; refine ⟨fun x => ?_, hK _ ?_⟩; (first | (go_at_call 24; exact C1.out _ GG)); clear hK K))) | (refine gLex_undef rfl rfl rfl (by kernel_rfl) (fun K hK => ?_); go_simp; refine hK _ ?_; clear hK K) | (refine gLex_ask rfl rfl rfl ?_; first | (apply gAsk_yes; kernel_rfl; intro K hK; (go_simp; (try (simp only [↓IntWalk.iteOmega]; try go_simp)); (try simp (disch := omega) only [IntWalk.i64_in]); (try simp (disch := omega) only [IntWalk.u64_in]); first | (refine hK _ ?_; clear hK K) | (apply Exists.intro; refine ⟨fun x => ?_, hK _ ?_⟩; (first | (go_at_call 24; exact C1.out _ GG)); clear hK K))) | ((first | apply gAsk_no1 | apply gAsk_no2); kernel_rfl; intro K hK; simp [go_sem]; refine hK _ ?_; clear hK K) | (apply gAsk_part; kernel_rfl; all_goals (intro h K hK; (try simp only [Bool.not_true] at h); (try simp only [Bool.not_false] at h); (try simp only [decide_eq_true_eq] at h); (try simp only [decide_eq_false_iff_not] at h); first | (exfalso; first | contradiction | omega) | (go_simp; (try (simp only [↓IntWalk.iteOmega]; try go_simp)); (try simp (disch := omega) only [IntWalk.i64_in]); (try simp (disch := omega) only [IntWalk.u64_in]); first | (refine hK _ ?_; clear hK K) | (apply Exists.intro; refine ⟨fun x => ?_, hK _ ?_⟩; (first | (go_at_call 24; exact C1.out _ GG)); clear hK K))))))); all_goals ((apply gLex_end); intro y))
      go_wp2_with fail
      go_roundw
      case measure => simp [intOf]; omega
      case rel => exact ⟨q + 1, by omega, by go_num, ⟨⟨_, GG⟩, rfl⟩⟩
end Go.Proofs.YtgplpgldhoelcaaGreat

namespace Go.Proofs.YtgplpgldhoelcaaGreat
open Go Go.RowKit
attribute [local go_sem] Oper.semAt_some
def ltN (E : List Edg) (x : List Nat) : List (List Nat) → Nat
  | [] => 0
  | p :: l => if cmpR E p x < 0 then ltN E x l + 1 else 0
theorem ltN_le (E : List Edg) (x : List Nat) : ∀ l, ltN E x l ≤ l.length
  | [] => Nat.le_refl _
  | p :: l => by
    rw [ltN, List.length_cons]
    have := ltN_le E x l
    split <;> omega
theorem ltN_lt {E : List Edg} {x : List Nat} : ∀ {l : List (List Nat)} {j : Nat} (hj : j < l.length), j < ltN E x l → rLt E l[j] x
  | [], j, hj, _ => by simp at hj
  | p :: l, 0, _, h => by
    rw [ltN] at h
    split at h
    · rename_i hc
      rcases cmpR_vals E p x with h1 | h1 | h1
      · exact h1
      · omega
      · omega
    · omega
  | p :: l, j + 1, hj, h => by
    rw [ltN] at h
    split at h
    · exact ltN_lt (l := l) (j := j) (by simpa using hj) (by omega)
    · omega
theorem ltN_ge {E : List Edg} {x : List Nat} : ∀ {l : List (List Nat)} {j : Nat} (_ : l.Pairwise (rLt E)) (hj : j < l.length), ltN E x l ≤ j → ¬ rLt E l[j] x
  | [], j, _, hj, _ => by simp at hj
  | p :: l, 0, hp, _, h => by
    rw [ltN] at h
    split at h
    · omega
    · rename_i hc
      intro h1
      have h1 : cmpR E p x = -1 := h1
      omega
  | p :: l, j + 1, hp, hj, h => by
    rw [ltN] at h
    have hp2 := List.pairwise_cons.1 hp
    have hj' : j < l.length := by simpa using hj
    split at h
    · exact ltN_ge (l := l) (j := j) hp2.2 hj' (by omega)
    · rename_i hc
      intro h1
      have h2 := (hp2.1 l[j] (List.getElem_mem hj')).trans h1
      have h2 : cmpR E p x = -1 := h2
      omega
theorem ltN_is {E : List Edg} {x : List Nat} {l : List (List Nat)} (hp : l.Pairwise (rLt E)) : x ∈ l ↔ l[ltN E x l]? = some x := by
  constructor
  · intro h
    obtain ⟨j, hj, he⟩ := List.getElem_of_mem h
    rcases Nat.lt_trichotomy j (ltN E x l) with h1 | h1 | h1
    · have := ltN_lt hj h1
      rw [he] at this
      exact this.irrefl.elim
    · rw [← h1, List.getElem?_eq_getElem hj, he]
    · have h2 : ltN E x l < l.length := by omega
      have h3 := List.pairwise_iff_getElem.1 hp (ltN E x l) j h2 hj h1
      rw [he] at h3
      exact absurd h3 (ltN_ge hp h2 (Nat.le_refl _))
  · intro h
    exact List.mem_of_getElem? h
theorem ltN_ins {E : List Edg} {x : List Nat} {l : List (List Nat)} (hp : l.Pairwise (rLt E)) (hx : x ∉ l) : Ins E l x (l.take (ltN E x l) ++ x :: l.drop (ltN E x l)) := by
  refine Ins.put hp (fun p hpm => ?_) (fun p hpm => ?_)
  · obtain ⟨j, hj, rfl⟩ := List.getElem_of_mem hpm
    rw [List.length_take] at hj
    rw [List.getElem_take]
    exact ltN_lt (by omega) (by omega)
  · obtain ⟨j, hj, rfl⟩ := List.getElem_of_mem hpm
    rw [List.length_drop] at hj
    rw [List.getElem_drop]
    rcases rLt_total E x (l[ltN E x l + j]'(by omega)) with h1 | h1 | h1
    · exact h1
    · exact absurd (by rw [h1]; exact List.getElem_mem _) hx
    · exact absurd h1 (ltN_ge hp (by omega) (by omega))
def gL (W : List (List Nat)) (j : Nat) : List Nat := W.getD j []
theorem gL_at {W : List (List Nat)} {j : Nat} (h : j < W.length) : gL W j = W[j] := by simp [gL, h]
def rtW (E : List Edg) (W : List (List Nat)) : List (List Nat × Nat) := W.map fun p => (p, wE E p)
theorem RtsAt.way {w : World} {B : Nat} {A : Option Addr} {c : Nat} {rs : List Rt} {E : List Edg} {W : List (List Nat)} (h : RtsAt w B A c rs (rtW E W)) {i : Nat} (hi : i < W.length) :
    ∃ g Ar cr, A = some ⟨g, 0, none⟩ ∧ rs[i]? = some (Ar, cr, gL W i, wE E (gL W i)) ∧ Holds w ⟨g, i * 2, none⟩ (.slice Ar (gL W i).length cr) ∧ Holds w ⟨g, i * 2 + 1, none⟩ (.int .u64 (wE E (gL W i) : Int)) ∧ Own w 0 3 1 Ar (gL W i).length cr (nv (gL W i)) := by
  rw [gL_at hi]
  have hl : i < rs.length := by rw [h.len]; simpa [rtW] using hi
  obtain ⟨r, hr⟩ : ∃ r, rs[i]? = some r := ⟨rs[i], by simp⟩
  obtain ⟨g, rfl, h1, h2, h3⟩ := h.at hr
  have h4 : (rtW E W)[i]? = some (r.2.2.1, r.2.2.2) := by rw [← h.eqs, List.getElem?_map, hr]; rfl
  rw [rtW, List.getElem?_map, List.getElem?_eq_getElem hi] at h4
  injection h4 with h4
  injection h4 with h5 h6
  obtain ⟨Ar, cr, l, f⟩ := r
  simp only at h1 h2 h3 h5 h6
  subst h5 h6
  exact ⟨g, Ar, cr, rfl, hr, h1, h2, h3⟩
set_option maxRecDepth 40000 in
set_option maxHeartbeats 8000000 in
theorem slBinR (B : Nat) (A : Option Addr) (c : Nat) (rs : List Rt) (E : List Edg) (W : List (List Nat)) (Ar : Option Addr) (cr : Nat) (l : List Nat) (w : World) (h : RtsAt w B A c rs (rtW E W)) (hs : W.Pairwise (rLt E)) (hn : W.length ≤ 1000000) (hl : l.length ≤ 1000000) (hlen : ∀ p ∈ W, p.length ≤ 1000000) (hr : Rd w Ar 1 l.length (nv l)) :
    Calls Tryz.prog 140 #[.slice A rs.length c, rVal Ar l.length cr (wE E l), .func (.func 141) #[] #[]] w fun e w' => e = .returned (.tuple #[.int .i64 (ltN E l W : Int), .bool (decide (l ∈ W))]) ∧ Grows w w' := by
  have hrl : rs.length = W.length := by rw [h.len]; simp [rtW]
  rw [hrl]
  have HH := hide h
  have HLT := hide (fun (j : Nat) (hj : j < W.length) (hlt : j < ltN E l W) => show rLt E (gL W j) l from by rw [gL_at hj]; exact ltN_lt hj hlt)
  have HGE := hide (fun (j : Nat) (hj : j < W.length) (hge : ltN E l W ≤ j) => show ¬ rLt E (gL W j) l from by rw [gL_at hj]; exact ltN_ge (x := l) hs hj hge)
  have HIS := hide (show l ∈ W ↔ (ltN E l W < W.length ∧ gL W (ltN E l W) = l) from by
    rw [ltN_is (x := l) hs]
    constructor
    · intro h
      have h1 := (List.getElem?_eq_some_iff.1 h).1
      exact ⟨h1, by rw [gL_at h1]; exact (List.getElem?_eq_some_iff.1 h).2⟩
    · rintro ⟨h1, h2⟩
      rw [gL_at h1] at h2
      rw [List.getElem?_eq_getElem h1, h2])
  have HLE := ltN_le E l W
  have CC := hide (fun (A1 : Option Addr) (c1 : Nat) (p : List Nat) (X : World) (hp : p.length ≤ 1000000) (h1 : Rd X A1 1 p.length (nv p)) (g : Grows w X) => show Calls Tryz.prog 141 #[rVal A1 p.length c1 (wE E p), rVal Ar l.length cr (wE E l)] X fun e w' => e = .returned (.int .i64 (cmpR E p l)) ∧ Grows X w' from by
    have := pCmp A1 p.length c1 (wE E p) p Ar l.length cr (wE E l) l X h1 hp (hr.grows g) hl
    rw [cmpV_is (E := E) rfl rfl] at this
    exact this)
  have HLN := hide hlen
  unfold rVal at CC ⊢
  clear h hs hrl hr hlen
  generalize ltN E l W = T at *
  obtain ⟨n, hnn⟩ : ∃ n, n = W.length := ⟨_, rfl⟩
  rw [← hnn] at hn HLE HLT HGE HIS ⊢
  have HN := hide hnn
  clear hnn
  generalize hWE : wE E l = fl at *
  clear hWE
  generalize l.length = nl at *
  go_enter Tryz.func140, Tryz.ntmps140
  go_upto_region 3 with fail
  have a4 : Arr (w.alloc (.cells #[.slice Ar nl cr, .int .u64 (fl : Int)] 53)) w.heap.size 53 [.slice Ar nl cr, .int .u64 (fl : Int)] := Arr.make _ _ _
  have hw1 : Grows w (w.alloc (.cells #[.slice Ar nl cr, .int .u64 (fl : Int)] 53)) := (Grows.refl _).new _
  generalize w.alloc (.cells #[.slice Ar nl cr, .int .u64 (fl : Int)] 53) = W1 at *
  generalize w.heap.size = b4 at *
  obtain ⟨y1, rfl⟩ := hw1.later
  go_loopw [9, 10] (fun i j wr => ∃ a b : Nat, i = .int .i64 (a : Int) ∧ j = .int .i64 (b : Int) ∧ a ≤ T ∧ T ≤ b ∧ b ≤ n ∧ ∃ x : Later y1.now, wr = x.now) (fun i j _ => (Go.RowKit.intOf j).toNat - (Go.RowKit.intOf i).toNat)
  case atStart => exact ⟨0, n, by go_num, by go_num, Nat.zero_le _, HLE, Nat.le_refl _, ⟨_, Grows.refl _⟩, rfl⟩
  case round =>
    obtain ⟨a, b, rfl, rfl, hat, htb, hbn, x, rfl⟩ := hrel
    by_cases hlt : a < b
    · obtain ⟨hh, hhe⟩ : ∃ hh, hh = (a + b) / 2 := ⟨_, rfl⟩
      have hh1 : a ≤ hh := by omega
      have hh2 : hh < b := by omega
      have hq : ((a : Int) + (b : Int)) / 2 = (hh : Int) := by omega
      obtain ⟨g, A1, c1, rfl, _, k1, k2, o1⟩ := HH.out.way (i := hh) (by rw [← HN.out]; omega)
      have hpl : (gL W hh).length ≤ 1000000 := HLN.out _ (by rw [gL_at (by rw [← HN.out]; omega)]; exact List.getElem_mem _)
      have CC2 := hide (fun (X : World) (gx : Grows w X) => CC.out A1 c1 (gL W hh) X hpl (o1.rd.grows gx) gx)
      have HL1 := hide (fun h => HLT.out hh (by omega) h)
      have HG1 := hide (fun h => HGE.out hh (by omega) h)
      clear o1 hpl hhe
      by_cases hc : rLt E (gL W hh) l
      · have hT : hh < T := by
          apply Classical.byContradiction
          intro h
          exact HG1.out (by omega) hc
        have hv : cmpR E (gL W hh) l = -1 := hc
        rw [hv] at CC2
        clear hc hv HL1 HG1
        generalize wE E (gL W hh) = f1 at *
        generalize (gL W hh).length = n1 at *
        go_wp2_with fail
        ((first | refine wp_region_gen2 (by kernel_rfl) (by kernel_rfl) ?_ | refine wp_region_gen (by kernel_rfl) (by kernel_rfl) ?_); (repeat' (first | (refine gLex_val0 rfl (by kernel_rfl) (fun K hK => ?_); (go_simp; (try (simp only [↓IntWalk.iteOmega]; try go_simp)); (try simp (disch := omega) only [IntWalk.i64_in]); (try simp (disch := omega) only [IntWalk.u64_in]); first | (refine hK _ ?_; clear hK K) | (apply Exists.intro; refine ⟨fun x => ?_, hK _ ?_⟩; (first | (go_at_call 141; exact CC2.out _ GG)); clear hK K))) | (refine gLex_undef rfl rfl rfl (by kernel_rfl) (fun K hK => ?_); go_simp; refine hK _ ?_; clear hK K) | (refine gLex_ask rfl rfl rfl ?_; first | (apply gAsk_yes; kernel_rfl; intro K hK; (go_simp; (try (simp only [↓IntWalk.iteOmega]; try go_simp)); (try simp (disch := omega) only [IntWalk.i64_in]); (try simp (disch := omega) only [IntWalk.u64_in]); first | (refine hK _ ?_; clear hK K) | (apply Exists.intro; refine ⟨fun x => ?_, hK _ ?_⟩; (first | (go_at_call 141; exact CC2.out _ GG)); clear hK K))) | ((first | apply gAsk_no1 | apply gAsk_no2); kernel_rfl; intro K hK; simp [go_sem]; refine hK _ ?_; clear hK K) | (apply gAsk_part; kernel_rfl; all_goals (intro h K hK; (try simp only [Bool.not_true] at h); (try simp only [Bool.not_false] at h); (try simp only [decide_eq_true_eq] at h); (try simp only [decide_eq_false_iff_not] at h); first | (exfalso; first | contradiction | omega) | (go_simp; (try (simp only [↓IntWalk.iteOmega]; try go_simp)); (try simp (disch := omega) only [IntWalk.i64_in]); (try simp (disch := omega) only [IntWalk.u64_in]); first | (refine hK _ ?_; clear hK K) | (apply Exists.intro; refine ⟨fun x => ?_, hK _ ?_⟩; (first | (go_at_call 141; exact CC2.out _ GG)); clear hK K))))))); all_goals ((apply gLex_end); intro y))
        go_wp2_with fail
        exact ⟨⟨hh + 1, b, by go_num, rfl, by omega, htb, hbn, ⟨_, GG⟩, rfl⟩, by simp [Go.RowKit.intOf]; omega⟩
      · have hT : T ≤ hh := by
          apply Classical.byContradiction
          intro h
          exact hc (HL1.out (by omega))
        have hv : 0 ≤ cmpR E (gL W hh) l := by
          rcases cmpR_vals E (gL W hh) l with h | h | h
          · exact absurd h hc
          · omega
          · omega
        have hvb : ¬ cmpR E (gL W hh) l < 0 := by omega
        clear hc hv HL1 HG1
        generalize cmpR E (gL W hh) l = z1 at *
        generalize wE E (gL W hh) = f1 at *
        generalize (gL W hh).length = n1 at *
        go_wp2_with fail
        ((first | refine wp_region_gen2 (by kernel_rfl) (by kernel_rfl) ?_ | refine wp_region_gen (by kernel_rfl) (by kernel_rfl) ?_); (repeat' (first | (refine gLex_val0 rfl (by kernel_rfl) (fun K hK => ?_); (go_simp; (try (simp only [↓IntWalk.iteOmega]; try go_simp)); (try simp (disch := omega) only [IntWalk.i64_in]); (try simp (disch := omega) only [IntWalk.u64_in]); first | (refine hK _ ?_; clear hK K) | (apply Exists.intro; refine ⟨fun x => ?_, hK _ ?_⟩; (first | (go_at_call 141; exact CC2.out _ GG)); clear hK K))) | (refine gLex_undef rfl rfl rfl (by kernel_rfl) (fun K hK => ?_); go_simp; refine hK _ ?_; clear hK K) | (refine gLex_ask rfl rfl rfl ?_; first | (apply gAsk_yes; kernel_rfl; intro K hK; (go_simp; (try (simp only [↓IntWalk.iteOmega]; try go_simp)); (try simp (disch := omega) only [IntWalk.i64_in]); (try simp (disch := omega) only [IntWalk.u64_in]); first | (refine hK _ ?_; clear hK K) | (apply Exists.intro; refine ⟨fun x => ?_, hK _ ?_⟩; (first | (go_at_call 141; exact CC2.out _ GG)); clear hK K))) | ((first | apply gAsk_no1 | apply gAsk_no2); kernel_rfl; intro K hK; simp [go_sem]; refine hK _ ?_; clear hK K) | (apply gAsk_part; kernel_rfl; all_goals (intro h K hK; (try simp only [Bool.not_true] at h); (try simp only [Bool.not_false] at h); (try simp only [decide_eq_true_eq] at h); (try simp only [decide_eq_false_iff_not] at h); first | (exfalso; first | contradiction | omega) | (go_simp; (try (simp only [↓IntWalk.iteOmega]; try go_simp)); (try simp (disch := omega) only [IntWalk.i64_in]); (try simp (disch := omega) only [IntWalk.u64_in]); first | (refine hK _ ?_; clear hK K) | (apply Exists.intro; refine ⟨fun x => ?_, hK _ ?_⟩; (first | (go_at_call 141; exact CC2.out _ GG)); clear hK K))))))); all_goals ((apply gLex_end); intro y))
        go_wp2_with fail
        exact ⟨⟨a, hh, rfl, by go_num, hat, hT, by omega, ⟨_, GG⟩, rfl⟩, by simp [Go.RowKit.intOf]; omega⟩
    · obtain rfl : a = T := by omega
      obtain rfl : a = b := by omega
      by_cases hend : a < n
      · obtain ⟨g, A1, c1, rfl, _, k1, k2, o1⟩ := HH.out.way (i := a) (by rw [← HN.out]; omega)
        have hpl : (gL W a).length ≤ 1000000 := HLN.out _ (by rw [gL_at (by rw [← HN.out]; omega)]; exact List.getElem_mem _)
        have CC2 := hide (fun (X : World) (gx : Grows w X) => CC.out A1 c1 (gL W a) X hpl (o1.rd.grows gx) gx)
        have HB := hide (show (cmpR E (gL W a) l == 0) = decide (l ∈ W) from by
          by_cases hm : gL W a = l
          · rw [hm, cmpR_self, decide_eq_true (HIS.out.2 ⟨hend, hm⟩)]
            rfl
          · rw [decide_eq_false (fun h => hm (HIS.out.1 h).2)]
            exact beq_eq_false_iff_ne.2 (fun h => hm (cmpR_eq h)))
        clear o1 hpl
        generalize hz1 : cmpR E (gL W a) l = z1 at *
        clear hz1
        generalize wE E (gL W a) = f1 at *
        generalize (gL W a).length = n1 at *
        go_wp2_with fail
        ((first | refine wp_region_gen2 (by kernel_rfl) (by kernel_rfl) ?_ | refine wp_region_gen (by kernel_rfl) (by kernel_rfl) ?_); (repeat' (first | (refine gLex_val0 rfl (by kernel_rfl) (fun K hK => ?_); (go_simp; (try (simp only [↓IntWalk.iteOmega]; try go_simp)); (try simp (disch := omega) only [IntWalk.i64_in]); (try simp (disch := omega) only [IntWalk.u64_in]); first | (refine hK _ ?_; clear hK K) | (apply Exists.intro; refine ⟨fun x => ?_, hK _ ?_⟩; (first | (go_at_call 141; exact CC2.out _ GG)); clear hK K))) | (refine gLex_undef rfl rfl rfl (by kernel_rfl) (fun K hK => ?_); go_simp; refine hK _ ?_; clear hK K) | (refine gLex_ask rfl rfl rfl ?_; first | (apply gAsk_yes; kernel_rfl; intro K hK; (go_simp; (try (simp only [↓IntWalk.iteOmega]; try go_simp)); (try simp (disch := omega) only [IntWalk.i64_in]); (try simp (disch := omega) only [IntWalk.u64_in]); first | (refine hK _ ?_; clear hK K) | (apply Exists.intro; refine ⟨fun x => ?_, hK _ ?_⟩; (first | (go_at_call 141; exact CC2.out _ GG)); clear hK K))) | ((first | apply gAsk_no1 | apply gAsk_no2); kernel_rfl; intro K hK; simp [go_sem]; refine hK _ ?_; clear hK K) | (apply gAsk_part; kernel_rfl; all_goals (intro h K hK; (try simp only [Bool.not_true] at h); (try simp only [Bool.not_false] at h); (try simp only [decide_eq_true_eq] at h); (try simp only [decide_eq_false_iff_not] at h); first | (exfalso; first | contradiction | omega) | (go_simp; (try (simp only [↓IntWalk.iteOmega]; try go_simp)); (try simp (disch := omega) only [IntWalk.i64_in]); (try simp (disch := omega) only [IntWalk.u64_in]); first | (refine hK _ ?_; clear hK K) | (apply Exists.intro; refine ⟨fun x => ?_, hK _ ?_⟩; (first | (go_at_call 141; exact CC2.out _ GG)); clear hK K))))))); all_goals ((apply gLex_end); intro y))
        go_wp2_with fail
        exact bodyPost_ret (v := .tuple #[.int .i64 (a : Int), .bool (z1 == 0)]) (by simp (maxDischargeDepth := 6) [results, Tryz.results140, go_sem]) rfl ⟨by rw [HB.out], GG⟩
      · have HB := hide (show false = decide (l ∈ W) from (decide_eq_false (fun h => hend (HIS.out.1 h).1)).symm)
        go_wp2_with fail
        ((first | refine wp_region_gen2 (by kernel_rfl) (by kernel_rfl) ?_ | refine wp_region_gen (by kernel_rfl) (by kernel_rfl) ?_); (repeat' (first | (refine gLex_val0 rfl (by kernel_rfl) (fun K hK => ?_); (go_simp; (try (simp only [↓IntWalk.iteOmega]; try go_simp)); (try simp (disch := omega) only [IntWalk.i64_in]); (try simp (disch := omega) only [IntWalk.u64_in]); first | (refine hK _ ?_; clear hK K) | (apply Exists.intro; refine ⟨fun x => ?_, hK _ ?_⟩; (first | fail); clear hK K))) | (refine gLex_undef rfl rfl rfl (by kernel_rfl) (fun K hK => ?_); go_simp; refine hK _ ?_; clear hK K) | (refine gLex_ask rfl rfl rfl ?_; first | (apply gAsk_yes; kernel_rfl; intro K hK; (go_simp; (try (simp only [↓IntWalk.iteOmega]; try go_simp)); (try simp (disch := omega) only [IntWalk.i64_in]); (try simp (disch := omega) only [IntWalk.u64_in]); first | (refine hK _ ?_; clear hK K) | (apply Exists.intro; refine ⟨fun x => ?_, hK _ ?_⟩; (first | fail); clear hK K))) | ((first | apply gAsk_no1 | apply gAsk_no2); kernel_rfl; intro K hK; simp [go_sem]; refine hK _ ?_; clear hK K) | (apply gAsk_part; kernel_rfl; all_goals (intro h K hK; (try simp only [Bool.not_true] at h); (try simp only [Bool.not_false] at h); (try simp only [decide_eq_true_eq] at h); (try simp only [decide_eq_false_iff_not] at h); first | (exfalso; first | contradiction | omega) | (go_simp; (try (simp only [↓IntWalk.iteOmega]; try go_simp)); (try simp (disch := omega) only [IntWalk.i64_in]); (try simp (disch := omega) only [IntWalk.u64_in]); first | (refine hK _ ?_; clear hK K) | (apply Exists.intro; refine ⟨fun x => ?_, hK _ ?_⟩; (first | fail); clear hK K))))))); all_goals ((apply gLex_end); intro y))
        go_wp2_with fail
        exact bodyPost_ret (v := .tuple #[.int .i64 (a : Int), .bool false]) (by simp (maxDischargeDepth := 6) [results, Tryz.results140, go_sem]) rfl ⟨by rw [HB.out], GG⟩
end Go.Proofs.YtgplpgldhoelcaaGreat

namespace Go.Proofs.YtgplpgldhoelcaaGreat
open Go Go.RowKit
def layA (cur : Array Value) : Nat → List Value → Array Value
  | _, [] => cur
  | o, v :: r => layA (cur.setIfInBounds o v) (o + 1) r
theorem layA_size (vs : List Value) : ∀ (cur : Array Value) (o : Nat), (layA cur o vs).size = cur.size := by
  induction vs with
  | nil => exact fun _ _ => rfl
  | cons v r ih => exact fun cur o => (ih _ _).trans (by simp)
theorem layA_get (vs : List Value) : ∀ (cur : Array Value) (o k : Nat), o + vs.length ≤ cur.size → (layA cur o vs)[k]? = if o ≤ k ∧ k < o + vs.length then vs[k - o]? else cur[k]? := by
  induction vs with
  | nil =>
    intro cur o k _
    rw [if_neg (by simp only [List.length_nil]; omega)]
    rfl
  | cons v r ih =>
    intro cur o k h
    simp only [List.length_cons] at h
    show (layA (cur.setIfInBounds o v) (o + 1) r)[k]? = _
    rw [ih _ _ _ (by simp; omega)]
    by_cases h1 : k = o
    · subst h1
      rw [if_neg (by omega), if_pos (by simp)]
      simp [show k < cur.size by omega]
    · by_cases h2 : o ≤ k ∧ k < o + (v :: r).length
      · rw [if_pos h2]
        simp only [List.length_cons] at h2
        rw [if_pos (by omega), show k - o = (k - (o + 1)) + 1 by omega, List.getElem?_cons_succ]
      · rw [if_neg h2]
        simp only [List.length_cons] at h2
        rw [if_neg (by omega), Array.getElem?_setIfInBounds_ne (Ne.symm h1)]
theorem setCells_at {t : TypeId} {g : Nat} (vs : List Value) : ∀ (w : World) (cur : Array Value) (o : Nat), w.heap[g]? = some (.cells cur t (0, 0)) → (w.setCells g o vs).heap[g]? = some (.cells (layA cur o vs) t (0, 0)) := by
  induction vs with
  | nil => exact fun _ _ _ h => h
  | cons v r ih =>
    intro w cur o h
    refine ih _ _ _ ?_
    simp [World.setCell, Array.getElem?_modify, h]
theorem setCells_touch {g : Nat} (vs : List Value) : ∀ (w : World) (o : Nat), Touch (fun k => k = g) w (w.setCells g o vs) := by
  induction vs with
  | nil => exact fun w _ => Touch.refl _ w
  | cons v r ih => exact fun w o => ((Touch.refl (fun k => k = g) w).set (p := ⟨g, o, none⟩) (.inl rfl) v).trans (ih _ _)
end Go.Proofs.YtgplpgldhoelcaaGreat

namespace Go.Proofs.YtgplpgldhoelcaaGreat
open Go Go.RowKit
section
variable {w : World} {e : TypeId} {ops : Array Oper} {rest : List Oper} {o : Oper} {a : Act} {Q : Exit → Act → World → Prop}
theorem wp_appT {t : TypeId} {size : Nat} (E : Elem t e size) (hgd : o.guard = none) (s x : Operand) (ho : o.op = .call { callee := .builtin .append, args := #[s, x], argTypes := #[t, t] })
    (B : Nat) (hB : B ≤ w.heap.size) (n c : Nat) (A : Option Addr) (xs : List Value) (hs : a.eval s = .slice A n c) (hown : Own w B e size A n c xs) (g c' : Nat) (news : List Value) (hx : a.eval x = .slice (some ⟨g, 0, none⟩) 1 c')
    (hl : news.length = size) (hv : ∀ j u, news[j]? = some u → w.cell? ⟨g, j, none⟩ = some u) (h1 : ∀ u ∈ news, u.oneCell' = true) (hnm : n + 1 ≤ 1000000000000)
    (h : ∀ A' c'' w', Own w' B e size A' (n + 1) c'' (xs ++ news) → Touch (fun k => ∃ p, A = some p ∧ p.block = k) w w' → (∀ p, A' = some p → (∃ q, A = some q ∧ q.block = p.block) ∨ New w w' p.block) → wpList Tryz.prog ops Q rest (a.put o.dst (.slice A' (n + 1) c'')) w') :
    wpList Tryz.prog ops Q (o :: rest) a w := by
  obtain ⟨i, z, bytes, hi, hz, hsz, hby, hzs, hb64⟩ := E.info
  obtain ⟨v', w', hr, hown', hgr, _, hat⟩ := run_append_own_at (P := Tryz.prog) w B t o.type e i z size bytes E.under hi hz hsz hby hzs E.pos (.slice A n c) n xs hown ⟨g, 0, none⟩ 1 c' news (by omega) (fun j u hu => by rw [add_pl2, Nat.zero_add]; exact hv j u hu) h1 (by unfold maxLen; omega) (Nat.le_trans (Nat.mul_le_mul hnm hb64) (by omega)) hB
  refine Lib.wpList_append_run w hgd s x t t ho _ _ hs hx _ w' hr ?_
  obtain ⟨A', c'', rfl⟩ := own_form hown'
  refine h A' c'' w' hown' ((Touch.refl _ w).grown hgr fun k hk => .inl (by
    cases A with
    | none => simp [Value.ownBlock] at hk
    | some p => simp [Value.ownBlock] at hk; exact ⟨p, rfl, hk⟩)) fun p hp => ?_
  subst hp
  simp only [Value.ownBlock] at hat
  rcases hat with hat | hat
  · cases A with
    | none => cases hat
    | some q => injection hat with hat; exact .inl ⟨q, rfl, hat.symm⟩
  · injection hat with hat
    exact .inr ⟨by omega, (World.ownsRow.lt hown' p.block rfl).2⟩
end
theorem run_copy_many {P : Program} (w : World) (dT sT ty elem : TypeId) (b o dLen dCap : Nat) (a : Addr) (sLen sCap size : Nat) (cs : List Value)
    (hu : P.underlying dT = some (.slice elem)) (hs : (P.info? elem).map (·.size) = some size) (hn : cs.length = Nat.min sLen dLen * size)
    (hsrc : ∀ j v, cs[j]? = some v → w.cell? (a.add j) = some v) (hc : ∀ j, j < cs.length → (w.cell? ⟨b, o + j, none⟩).isSome = true) (hf : ∀ j, j < cs.length → w.frozen? ⟨b, o + j, none⟩ = false) (h1 : ∀ v ∈ cs, v.oneCell' = true) :
    (Builtin.copy_ #[dT, sT] ty #[.slice (some ⟨b, o, none⟩) dLen dCap, .slice (some a) sLen sCap]).run P w = .ok (goInt (Nat.min sLen dLen)) (w.setCells b o cs) := by
  have hl := run_loadCells_list (P := P) w a cs hsrc
  have hst := run_storeCells_cells (P := P) b o cs 0 w (by simpa using hc) (by simpa using hf) h1
  cases hq : P.info? elem with
  | none => simp [hq] at hs
  | some i =>
    have hi : i.size = size := by simpa [hq] using hs
    simp [Builtin.copy_, run_underlying hu, Builtin.lenOf, Builtin.firstCells, sizeOf, typeInfo, hq, hi, ← hn, hl, hst]
theorem Own.capN {w : World} {B n c size : Nat} {e : TypeId} {A : Option Addr} {xs : List Value} (h : Own w B e size A n c xs) : n ≤ c := by
  rcases h.2 with ⟨h1, h2⟩ | ⟨g', cap, cur, h1, _, _, h4, _⟩
  · omega
  · injection h1 with h1 _ h5
    omega
theorem Own.capM {w : World} {B n c size : Nat} {e : TypeId} {A : Option Addr} {xs : List Value} (h : Own w B e size A n c xs) : c ≤ maxLen := by
  rcases h.2 with ⟨h1, h2⟩ | ⟨g', cap, cur, h1, _, _, _, h5, _⟩
  · injection h1 with _ _ h3
    omega
  · injection h1 with h1 _ h6
    omega
def GiveIn (w : World) (B n i : Nat) (A : Option Addr) (xs : List Value) (v v2 : Value) (e : Ending) (w' : World) : Prop :=
  ∃ A' c', e = .returned (.slice A' (n + 1) c') ∧ Own w' B 53 2 A' (n + 1) c' (xs.take (i * 2) ++ [v, v2] ++ xs.drop (i * 2)) ∧ Touch (fun k => ∃ p, A = some p ∧ p.block = k) w w' ∧ (∀ p, A' = some p → (∃ q, A = some q ∧ q.block = p.block) ∨ New w w' p.block)
theorem ins_list {xs : List Value} {i n : Nat} {v v2 : Value} (hl : xs.length = n * 2) (hi : i ≤ n) (k : Nat) :
    (xs.take (i * 2) ++ [v, v2] ++ xs.drop (i * 2))[k]? = if k < i * 2 then xs[k]? else if k < (i + 1) * 2 then [v, v2][k - i * 2]? else xs[k - 2]? := by
  have l1 : (xs.take (i * 2)).length = i * 2 := by rw [List.length_take, hl]; omega
  by_cases h1 : k < i * 2
  · rw [if_pos h1, List.append_assoc, List.getElem?_append_left (by omega), List.getElem?_take, if_pos h1]
  · rw [if_neg h1]
    by_cases h2 : k < (i + 1) * 2
    · rw [if_pos h2, List.getElem?_append_left (by rw [List.length_append, l1]; simp; omega), List.getElem?_append_right (by omega), l1]
    · rw [if_neg h2, List.getElem?_append_right (by rw [List.length_append, l1]; simp; omega), List.length_append, l1, List.getElem?_drop]
      congr 1
      simp
      omega
set_option maxRecDepth 20000 in
set_option maxHeartbeats 4000000 in
theorem insEnd (B n c : Nat) (A : Option Addr) (xs : List Value) (vb : Nat) (v v2 : Value) (w : World) (hB : B ≤ w.heap.size) (ho : Own w B 53 2 A n c xs) (hn : n ≤ 1000000) (h0 : Holds w ⟨vb, 0, none⟩ v) (h1 : Holds w ⟨vb, 1, none⟩ v2) (o0 : v.oneCell' = true) (o1 : v2.oneCell' = true) :
    Calls Tryz.prog 142 #[.slice A n c, .int .i64 (n : Int), .slice (some ⟨vb, 0, none⟩) 1 1] w (GiveIn w B n n A xs v v2) := by
  unfold GiveIn
  have HO := hide ho
  have HX := hide (show xs.take (n * 2) = xs from List.take_of_length_le (by have := ho.1; omega))
  have HY := hide (show xs.drop (n * 2) = [] from List.drop_of_length_le (by have := ho.1; omega))
  have hcap : n ≤ c := ho.capN
  have hcell := hide (show ∀ j u, [v, v2][j]? = some u → w.cell? ⟨vb, j, none⟩ = some u from fun j u hu => by
    match j, hu with
    | 0, hu => simp at hu; rw [← hu]; exact h0.cell
    | 1, hu => simp at hu; rw [← hu]; exact h1.cell)
  have hone := hide (show ∀ u ∈ [v, v2], u.oneCell' = true from fun u hu => by simp at hu; rcases hu with rfl | rfl; exact o0; exact o1)
  clear ho h0 h1 o0 o1
  go_enter Tryz.func142, Tryz.ntmps142
  go_wp2_with (at_builtin; refine wp_appT elemRoute rfl _ _ rfl B hB n c A xs rfl HO.out vb 1 [v, v2] rfl rfl hcell.out hone.out (by omega) ?_; intro A3 c3 w3 hown3 ht3 hn3; have HR := hide (And.intro hown3 (And.intro ht3 hn3)); clear hown3 ht3 hn3)
  all_goals go_ret
  all_goals exact ⟨A3, c3, rfl, by have := HR.out.1; rw [HX.out, HY.out]; simpa using this, HR.out.2.1, HR.out.2.2⟩
set_option maxRecDepth 100000 in
set_option maxHeartbeats 8000000 in
theorem insShift (B n c i : Nat) (A : Option Addr) (xs : List Value) (vb : Nat) (v v2 : Value) (w : World) (ho : Own w B 53 2 A n c xs) (hi : i < n) (hroom : n + 1 ≤ c) (hn : n ≤ 1000000) (hv : Arr w vb 53 [v, v2]) (hne : ∀ p, A = some p → p.block ≠ vb) (o0 : v.oneCell' = true) (o1 : v2.oneCell' = true) (hx1 : ∀ u ∈ xs, u.oneCell' = true) :
    Calls Tryz.prog 142 #[.slice A n c, .int .i64 (i : Int), .slice (some ⟨vb, 0, none⟩) 1 1] w (GiveIn w B n i A xs v v2) := by
  have hm : c ≤ maxLen := ho.capM
  obtain ⟨g, cur, rfl, hBg, hh, hnc, hsz, htk⟩ := ho.at_ (by omega)
  have hvb : vb ≠ g := fun e => hne _ rfl e.symm
  have hxl : xs.length = n * 2 := ho.1
  have hcur : ∀ k, k < n * 2 → cur[k]? = xs[k]? := fun k hk => by
    rw [← htk, List.getElem?_take, if_pos hk]
    simp
  have hinfo : (Tryz.prog.info? 53).map (·.size) = some 2 := by kernel_rfl
  have hcell : ∀ k, w.drew.cell? ⟨g, k, none⟩ = cur[k]? := fun k => by show w.cell? _ = _; simp [World.cell?, hh]
  have hfroz : ∀ k, w.drew.frozen? ⟨g, k, none⟩ = false := fun k => by show w.frozen? _ = _; simp [World.frozen?, hh]
  have hvi := hv.is
  have hov : ∀ lb cb, (callFunc 192 #[.slice (some ⟨vb, 0, none⟩) 1 1, .slice (some ⟨g, (i + 1) * 2, none⟩) lb cb]).run Tryz.prog w = .ok (.value (.bool false)) w := fun lb cb => by
    rw [run_callFunc_extern Tryz.func192 (by kernel_rfl) (by kernel_rfl) (by kernel_rfl) (e := Extern.SlicesOverlaps.overlaps #[46, 46] #[4]) (by kernel_rfl),
      Lib.run_overlaps_apart w 46 4 53 Tryz.underlying46 2 Tryz.sizeOf53 ⟨vb, 0, none⟩ ⟨g, (i + 1) * 2, none⟩ 1 1 lb cb hvb 53 53 2 (c * 2) (by simp [World.shape?, hvi]) (by simp [World.shape?, hh, hsz]) (by omega) (by simp [World.frozen?, hvi]) (by simp [World.frozen?, hvi])]
    rfl
  have hdl : (xs.drop (i * 2)).length = (n - i) * 2 := by rw [List.length_drop, hxl]; omega
  have hcp1 : ∀ ty dc sc, (Builtin.copy_ #[46, 46] ty #[.slice (some ⟨g, (i + 1) * 2, none⟩) (n - i) dc, .slice (some ⟨g, i * 2, none⟩) (n + 1 - i) sc]).run Tryz.prog w.drew = .ok (goInt (Nat.min (n + 1 - i) (n - i))) (w.drew.setCells g ((i + 1) * 2) (xs.drop (i * 2))) := fun ty dc sc =>
    run_copy_many w.drew _ _ ty 53 g ((i + 1) * 2) (n - i) dc ⟨g, i * 2, none⟩ (n + 1 - i) sc 2 (xs.drop (i * 2)) Tryz.underlying46 hinfo (by rw [hdl]; congr 1; simp only [Nat.min_def]; split <;> omega)
      (fun j u hj => by
        have hjl := (List.getElem?_eq_some_iff.1 hj).1
        rw [hdl] at hjl
        rw [add_pl2, hcell, hcur _ (by omega)]
        rwa [List.getElem?_drop] at hj)
      (fun j hj => by rw [hcell, Array.getElem?_eq_getElem (by rw [hdl] at hj; omega)]; rfl) (fun j hj => hfroz _) (fun u hu => hx1 u (List.mem_of_mem_drop hu))
  obtain ⟨W1, hW1⟩ : ∃ W1, W1 = w.drew.setCells g ((i + 1) * 2) (xs.drop (i * 2)) := ⟨_, rfl⟩
  have hh1 : W1.heap[g]? = some (.cells (layA cur ((i + 1) * 2) (xs.drop (i * 2))) 53 (0, 0)) := by
    rw [hW1]
    exact setCells_at _ w.drew cur _ hh
  have hsz1 : (layA cur ((i + 1) * 2) (xs.drop (i * 2))).size = c * 2 := by rw [layA_size, hsz]
  have htW : Touch (fun k => k = g) w W1 := by rw [hW1]; exact ((Touch.refl (fun k => k = g) w).drew).trans (setCells_touch _ _ _)
  have hv1 : Arr W1 vb 53 [v, v2] := hv.touch htW hvb
  have hvi1 := hv1.is
  rw [← hW1] at hcp1
  have hcp2 : ∀ (W : World), (∀ x, W.cell? x = W1.cell? x) → (∀ x, W.frozen? x = W1.frozen? x) → ∀ ty dl dc, 1 ≤ dl → (Builtin.copy_ #[46, 46] ty #[.slice (some ⟨g, i * 2, none⟩) dl dc, .slice (some ⟨vb, 0, none⟩) 1 1]).run Tryz.prog W = .ok (goInt 1) (W.setCells g (i * 2) [v, v2]) := fun W hWc hWf ty dl dc hd => by
    have := run_copy_many (P := Tryz.prog) W 46 46 ty 53 g (i * 2) dl dc ⟨vb, 0, none⟩ 1 1 2 [v, v2] Tryz.underlying46 hinfo (by rw [show Nat.min 1 dl = 1 from Nat.min_eq_left hd]; rfl)
      (fun j u hj => by rw [add_pl2, hWc, Nat.zero_add, hv1.cell]; exact hj)
      (fun j hj => by rw [hWc]; simp only [World.cell?, hh1]; rw [Array.getElem?_eq_getElem (by rw [hsz1]; simp at hj; omega)]; rfl) (fun j hj => by rw [hWf]; simp [World.frozen?, hh1]) (fun u hu => by simp at hu; rcases hu with rfl | rfl; exact o0; exact o1)
    rwa [show Nat.min 1 dl = 1 from Nat.min_eq_left hd] at this
  have HF := hide (show ∀ W, Touch (fun k => k = g) W1 W → W.heap[g]? = some (.cells (layA (layA cur ((i + 1) * 2) (xs.drop (i * 2))) (i * 2) [v, v2]) 53 (0, 0)) → GiveIn w B n i (some ⟨g, 0, none⟩) xs v v2 (.returned (.slice (some ⟨g, 0, none⟩) (n + 1) c)) W from fun W hT hW => by
    refine ⟨_, c, rfl, ⟨by simp [hxl]; omega, .inr ⟨g, c, _, rfl, hBg, hW, hroom, hm, by rw [layA_size, hsz1], ?_⟩⟩, (htW.trans hT).mono (fun k hk => ⟨_, rfl, hk.symm⟩), fun p hp => .inl ⟨p, hp, rfl⟩⟩
    apply List.ext_getElem?
    intro k
    rw [List.getElem?_take, ins_list hxl (by omega)]
    by_cases hk : k < (n + 1) * 2
    · rw [if_pos hk, Array.getElem?_toList, layA_get _ _ _ _ (by rw [hsz1]; simp; omega), layA_get _ _ _ _ (by rw [hsz, hdl]; omega)]
      by_cases h1 : k < i * 2
      · rw [if_neg (by omega), if_neg (by omega), if_pos h1]
        exact hcur k (by omega)
      · by_cases h2 : k < (i + 1) * 2
        · rw [if_pos (by simp; omega), if_neg h1, if_pos h2]
        · rw [if_neg (by simp; omega), if_pos (by rw [hdl]; omega), if_neg h1, if_neg h2, List.getElem?_drop]
          congr 1
          omega
    · rw [if_neg hk, if_neg (by omega), if_neg (by omega), List.getElem?_eq_none (by omega)])
  clear hh hcur hcell hfroz hsz htk hne hvi hvi1 ho hx1 hdl hxl
  clear hW1
  have mixed : Tryz.prog.follows .mixedOrders = true := by kernel_rfl
  have hz2 : ¬ ((i : Int) = (n : Int)) := by omega
  have hw1 : IntKind.i64.wrap ((i : Int) + 1) = (i : Int) + 1 := by rw [IntKind.wrap_i64]; omega
  have hb2 : ¬ (c = i + 1) := by omega
  have hb4 : ¬ (c = i) := by omega
  have hb1 : (0 : Int) ≤ (i : Int) + 1 := by omega
  have hb3 : (i : Int) ≤ (n : Int) + 1 := by omega
  have hin : i ≤ n := by omega
  have htn : ((i : Int) + 1).toNat = i + 1 := by omega
  have hHT := hide (show ∀ W : World, Touch (fun k => k = g) W (W.setCells g (i * 2) [v, v2]) from fun W => setCells_touch _ _ _)
  have hHA := hide (show (W1.setCells g (i * 2) [v, v2]).heap[g]? = some (.cells (layA (layA cur ((i + 1) * 2) (xs.drop (i * 2))) (i * 2) [v, v2]) 53 (0, 0)) from setCells_at _ _ _ _ hh1)
  go_enter Tryz.func142, Tryz.ntmps142
  go_wp2_with (simp only [hov])
  go_region_law_o (refine step_copy_runI rfl _ _ 46 46 rfl _ _ (by simp [Act.eval, Act.put]) (by simp [Act.eval, Act.put]) (hcp1 _ _ _) ?_)
  have hcp3 : ∀ ty dc, (Builtin.copy_ #[46, 46] ty #[.slice (some ⟨g, i * 2, none⟩) (n + 1 - i) dc, .slice (some ⟨vb, 0, none⟩) 1 1]).run Tryz.prog W1 = .ok (goInt 1) (W1.setCells g (i * 2) [v, v2]) := fun ty dc => hcp2 W1 (fun _ => rfl) (fun _ => rfl) ty _ dc (by omega)
  clear hcp2
  go_wp2_with fail
  go_ret
  exact HF.out _ (hHT.out _) hHA.out
set_option maxRecDepth 100000 in
set_option maxHeartbeats 8000000 in
theorem insGrow (B n c i : Nat) (A : Option Addr) (xs : List Value) (vb : Nat) (v v2 : Value) (w : World) (hB : B ≤ w.heap.size) (ho : Own w B 53 2 A n c xs) (hi : i < n) (hroom : c < n + 1) (hn : n ≤ 1000000) (hv : Arr w vb 53 [v, v2]) (hne : ∀ p, A = some p → p.block ≠ vb) (o0 : v.oneCell' = true) (o1 : v2.oneCell' = true) (hx1 : ∀ u ∈ xs, u.oneCell' = true) :
    Calls Tryz.prog 142 #[.slice A n c, .int .i64 (i : Int), .slice (some ⟨vb, 0, none⟩) 1 1] w (GiveIn w B n i A xs v v2) := by
  obtain ⟨g, cur, rfl, hBg, hh, hnc, hsz, htk⟩ := ho.at_ (by omega)
  have hvb : vb ≠ g := fun e => hne _ rfl e.symm
  have hxl : xs.length = n * 2 := ho.1
  have hcur : ∀ k, k < n * 2 → cur[k]? = xs[k]? := fun k hk => by
    rw [← htk, List.getElem?_take, if_pos hk]
    simp
  obtain ⟨i0, z0, hi0, hz0, hzs, hzb, hzc⟩ : ∃ (i : TypeInfo) (z : Value), Tryz.prog.info? 53 = some i ∧ i.zero = some z ∧ i.size = 2 ∧ i.bytes = 32 ∧ z.cells.size = 2 := by
    have h : (Tryz.prog.info? 53).map (fun i => (i.zero, i.size, i.bytes)) = some (some (.agg #[.slice none 0 0, .int .u64 0]), 2, 32) := by kernel_rfl
    obtain ⟨i, h1, h2, h3, h4⟩ := info_parts h
    exact ⟨i, _, h1, h2, h3, h4, rfl⟩
  have hinfo : (Tryz.prog.info? 53).map (·.size) = some 2 := by kernel_rfl
  have hgw : g < w.heap.size := (Array.getElem?_eq_some_iff.1 hh).1
  have hvw := hv.lt
  have hcell : ∀ k, w.cell? ⟨g, k, none⟩ = cur[k]? := fun k => by simp [World.cell?, hh]
  have hkk : (n : Int) + 1 - (i : Int) = ((n + 1 - i : Nat) : Int) := by omega
  have hik : i + (n + 1 - i) = n + 1 := by omega
  have l1 : (xs.take (i * 2)).length = i * 2 := by rw [List.length_take, hxl]; omega
  have hold : (Builtin.firstCells i0.size i (.slice (some ⟨g, 0, none⟩) i c)).run Tryz.prog w.drew = .ok (xs.take (i * 2)).toArray w.drew := by
    rw [hzs]
    exact run_firstCells_some w.drew 2 i ⟨g, 0, none⟩ i c (xs.take (i * 2)) l1 (fun j u hj => by
      rw [add_pl2, Nat.zero_add]
      show w.cell? _ = _
      rw [List.getElem?_take] at hj
      split at hj
      · rw [hcell, hcur _ (by omega)]; exact hj
      · cases hj)
  have hrz : ∀ ty, (Builtin.append_ #[46, 3] ty #[.slice (some ⟨g, 0, none⟩) i c, .int .i64 ((n : Int) + 1 - (i : Int))]).run Tryz.prog w =
      .ok (.slice (some ⟨w.heap.size, 0, none⟩) (n + 1) (grownCap w (n + 1) c 53)) (w.drew.alloc (.cells ((xs.take (i * 2)).toArray ++ Builtin.zeroCells z0.cells (n + 1 - i) ++ Builtin.zeroCells z0.cells (grownCap w (n + 1) c 53 - (n + 1))) 53)) := fun ty => by
    have h := Lib.run_append_grow_zeros (P := Tryz.prog) w 46 3 ty 53 i0 _ .i64 .i64 Tryz.underlying46 Tryz.underlying3 hi0 hz0 (some ⟨g, 0, none⟩) i c (xs.take (i * 2)) hold (n + 1 - i) (by omega) (by omega) (by omega) (by omega) (by rw [hzb]; omega) (by rw [hzb, hik]; exact growslice_fits hroom (by omega))
    rw [hik] at h
    rw [hkk]
    exact h
  have hGn : n + 1 ≤ grownCap w (n + 1) c 53 := grownCap_ge w _ _ _
  have hGm : grownCap w (n + 1) c 53 ≤ maxLen := grownCap_le_maxLen w (n + 1) c 53 (by unfold maxLen; omega)
  obtain ⟨G, hG⟩ : ∃ G, G = grownCap w (n + 1) c 53 := ⟨_, rfl⟩
  rw [← hG] at hrz hGn hGm
  obtain ⟨ROW, hROW⟩ : ∃ ROW : Array Value, ROW = (xs.take (i * 2)).toArray ++ Builtin.zeroCells z0.cells (n + 1 - i) ++ Builtin.zeroCells z0.cells (G - (n + 1)) := ⟨_, rfl⟩
  rw [← hROW] at hrz
  have hRl : ROW.size = G * 2 := by
    rw [hROW, Array.size_append, Array.size_append, size_zeroCells, size_zeroCells, hzc]
    simp [l1]
    omega
  have hRt : ∀ k, k < i * 2 → ROW[k]? = xs[k]? := fun k hk => by
    rw [hROW, Array.append_assoc, Array.getElem?_append_left (by simp [l1]; omega)]
    simp [List.getElem?_take, hk]
  obtain ⟨W1, hW1⟩ : ∃ W1, W1 = w.drew.alloc (.cells ROW 53) := ⟨_, rfl⟩
  rw [← hW1] at hrz
  have hh1 : W1.heap[w.heap.size]? = some (.cells ROW 53 (0, 0)) := by
    rw [hW1]
    exact World.alloc_heap_new w.drew _
  have hgW1 : Grows w W1 := by rw [hW1]; exact ((Grows.refl w).drew).new _
  have hv1 : Arr W1 vb 53 [v, v2] := hv.grow hgW1
  have hcell1 : ∀ k, W1.cell? ⟨w.heap.size, k, none⟩ = ROW[k]? := fun k => by simp [World.cell?, hh1]
  have hcpA : ∀ (W : World), (∀ x, W.cell? x = W1.cell? x) → (∀ x, W.frozen? x = W1.frozen? x) → ∀ ty dl dc, 1 ≤ dl → (Builtin.copy_ #[46, 46] ty #[.slice (some ⟨w.heap.size, i * 2, none⟩) dl dc, .slice (some ⟨vb, 0, none⟩) 1 1]).run Tryz.prog W = .ok (goInt 1) (W.setCells w.heap.size (i * 2) [v, v2]) := fun W hWc hWf ty dl dc hd => by
    have := run_copy_many (P := Tryz.prog) W 46 46 ty 53 w.heap.size (i * 2) dl dc ⟨vb, 0, none⟩ 1 1 2 [v, v2] Tryz.underlying46 hinfo (by rw [show Nat.min 1 dl = 1 from Nat.min_eq_left hd]; rfl)
      (fun j u hj => by rw [add_pl2, hWc, Nat.zero_add, hv1.cell]; exact hj)
      (fun j hj => by rw [hWc, hcell1, Array.getElem?_eq_getElem (by rw [hRl]; simp at hj; omega)]; rfl) (fun j hj => by rw [hWf]; simp [World.frozen?, hh1]) (fun u hu => by simp at hu; rcases hu with rfl | rfl; exact o0; exact o1)
    rwa [show Nat.min 1 dl = 1 from Nat.min_eq_left hd] at this
  obtain ⟨W2, hW2⟩ : ∃ W2, W2 = W1.setCells w.heap.size (i * 2) [v, v2] := ⟨_, rfl⟩
  have hh2 : W2.heap[w.heap.size]? = some (.cells (layA ROW (i * 2) [v, v2]) 53 (0, 0)) := by
    rw [hW2]
    exact setCells_at _ _ _ _ hh1
  have ht2 : Touch (fun k => k = w.heap.size) W1 W2 := by rw [hW2]; exact setCells_touch _ _ _
  have hhg2 : W2.heap[g]? = some (.cells cur 53 (0, 0)) := by
    refine ht2.at (k := g) (show g ≠ w.heap.size by omega) ?_
    exact (hgW1.block g hgw).trans hh
  have hdl : (xs.drop (i * 2)).length = (n - i) * 2 := by rw [List.length_drop, hxl]; omega
  have hcpB : ∀ (W : World), (∀ x, W.cell? x = W2.cell? x) → (∀ x, W.frozen? x = W2.frozen? x) → ∀ ty dc sc, (Builtin.copy_ #[46, 46] ty #[.slice (some ⟨w.heap.size, (i + 1) * 2, none⟩) (n - i) dc, .slice (some ⟨g, i * 2, none⟩) (n - i) sc]).run Tryz.prog W = .ok (goInt ((n - i : Nat) : Int)) (W.setCells w.heap.size ((i + 1) * 2) (xs.drop (i * 2))) := fun W hWc hWf ty dc sc => by
    have hmin : Nat.min (n - i) (n - i) = n - i := Nat.min_eq_left (by omega)
    have := run_copy_many (P := Tryz.prog) W 46 46 ty 53 w.heap.size ((i + 1) * 2) (n - i) dc ⟨g, i * 2, none⟩ (n - i) sc 2 (xs.drop (i * 2)) Tryz.underlying46 hinfo (by rw [hdl, hmin])
      (fun j u hj => by
        have hjl := (List.getElem?_eq_some_iff.1 hj).1
        rw [hdl] at hjl
        rw [add_pl2, hWc]
        simp only [World.cell?, hhg2]
        rw [hcur _ (by omega)]
        rwa [List.getElem?_drop] at hj)
      (fun j hj => by rw [hWc]; simp only [World.cell?, hh2]; rw [Array.getElem?_eq_getElem (by rw [layA_size, hRl]; rw [hdl] at hj; omega)]; rfl)
      (fun j hj => by rw [hWf]; simp [World.frozen?, hh2]) (fun u hu => hx1 u (List.mem_of_mem_drop hu))
    rwa [hmin] at this
  have HF := hide (show ∀ W, Touch (fun k => ∃ p, (some (⟨g, 0, none⟩ : Addr)) = some p ∧ p.block = k) w W → W.heap[w.heap.size]? = some (.cells (layA (layA ROW (i * 2) [v, v2]) ((i + 1) * 2) (xs.drop (i * 2))) 53 (0, 0)) → GiveIn w B n i (some ⟨g, 0, none⟩) xs v v2 (.returned (.slice (some ⟨w.heap.size, 0, none⟩) (n + 1) G)) W from fun W hT hW => by
    refine ⟨_, G, rfl, ⟨by simp [hxl]; omega, .inr ⟨w.heap.size, G, _, rfl, hB, hW, hGn, hGm, by rw [layA_size, layA_size, hRl], ?_⟩⟩, hT, fun p hp => .inr ?_⟩
    · apply List.ext_getElem?
      intro k
      rw [List.getElem?_take, ins_list hxl (by omega)]
      by_cases hk : k < (n + 1) * 2
      · rw [if_pos hk, Array.getElem?_toList, layA_get _ _ _ _ (by rw [layA_size, hRl, hdl]; omega), layA_get _ _ _ _ (by rw [hRl]; simp; omega)]
        by_cases h1 : k < i * 2
        · rw [if_neg (by omega), if_neg (by omega), if_pos h1]
          exact hRt k h1
        · by_cases h2 : k < (i + 1) * 2
          · rw [if_neg (by omega), if_pos (by simp; omega), if_neg h1, if_pos h2]
          · rw [if_pos (by rw [hdl]; omega), if_neg h1, if_neg h2, List.getElem?_drop]
            congr 1
            omega
      · rw [if_neg hk, if_neg (by omega), if_neg (by omega), List.getElem?_eq_none (by omega)]
    · injection hp with hp
      subst hp
      exact ⟨Nat.le_refl _, (Array.getElem?_eq_some_iff.1 hW).1⟩)
  have hHT := hide (show Touch (fun k => ∃ p, (some (⟨g, 0, none⟩ : Addr)) = some p ∧ p.block = k) w ((((w.alloc (.cells ROW 53)).drew.setCells w.heap.size (i * 2) [v, v2]).drew).setCells w.heap.size ((i + 1) * 2) (xs.drop (i * 2))) from
    ((((Touch.refl _ w).new _).drew.trans2 (setCells_touch _ _ _) (fun k hk => .inr (Nat.le_of_eq hk.symm))).drew).trans2 (setCells_touch _ _ _) (fun k hk => .inr (Nat.le_of_eq hk.symm)))
  have hHA := hide (show ((((w.alloc (.cells ROW 53)).drew.setCells w.heap.size (i * 2) [v, v2]).drew).setCells w.heap.size ((i + 1) * 2) (xs.drop (i * 2))).heap[w.heap.size]? = some (.cells (layA (layA ROW (i * 2) [v, v2]) ((i + 1) * 2) (xs.drop (i * 2))) 53 (0, 0)) from
    setCells_at _ _ _ _ (show (((w.alloc (.cells ROW 53)).drew.setCells w.heap.size (i * 2) [v, v2])).heap[w.heap.size]? = some (.cells (layA ROW (i * 2) [v, v2]) 53 (0, 0)) from setCells_at _ _ _ _ (show (w.alloc (.cells ROW 53)).heap[w.heap.size]? = some (.cells ROW 53 (0, 0)) from World.alloc_heap_new w _)))
  have hci : c = n := by omega
  have mixed : Tryz.prog.follows .mixedOrders = true := by kernel_rfl
  have hz2 : ¬ ((i : Int) = (n : Int)) := by omega
  have hz3 : (c : Int) < (n : Int) + 1 := by omega
  have hGi : ¬ (G = i) := by omega
  have hGim : ¬ (G = i + 1) := by omega
  have hci2 : ¬ (c = i) := by omega
  have hin : i ≤ n := by omega
  have hw1 : IntKind.i64.wrap ((i : Int) + 1) = (i : Int) + 1 := by rw [IntKind.wrap_i64]; omega
  have hb1 : (0 : Int) ≤ (i : Int) + 1 := by omega
  have hb3 : (i : Int) ≤ (n : Int) + 1 := by omega
  have htn : ((i : Int) + 1).toNat = i + 1 := by omega
  have hG63 : G ≤ 9223372036854775807 := by unfold maxLen at hGm; omega
  clear hh hcur hcell hsz htk hne ho hx1 hdl hxl hkk hik hold hROW hG hRl hRt l1 hh1 hcell1 hv hv1 hhg2 hh2 hzs hzb hzc hz0 hi0 hBg hci hroom ht2 hgW1
  subst hW2 hW1
  have hE1 : ∀ x, ((w.alloc (.cells ROW 53)).drew).cell? x = (w.drew.alloc (.cells ROW 53)).cell? x := fun x => rfl
  have hE2 : ∀ x, ((w.alloc (.cells ROW 53)).drew).frozen? x = (w.drew.alloc (.cells ROW 53)).frozen? x := fun x => rfl
  have hF1 : ∀ x, (((w.alloc (.cells ROW 53)).drew.setCells w.heap.size (i * 2) [v, v2]).drew).cell? x = ((w.drew.alloc (.cells ROW 53)).setCells w.heap.size (i * 2) [v, v2]).cell? x := fun x => rfl
  have hF2 : ∀ x, (((w.alloc (.cells ROW 53)).drew.setCells w.heap.size (i * 2) [v, v2]).drew).frozen? x = ((w.drew.alloc (.cells ROW 53)).setCells w.heap.size (i * 2) [v, v2]).frozen? x := fun x => rfl
  go_enter Tryz.func142, Tryz.ntmps142
  have hcp3 : ∀ ty dc, (Builtin.copy_ #[46, 46] ty #[.slice (some ⟨w.heap.size, i * 2, none⟩) (n + 1 - i) dc, .slice (some ⟨vb, 0, none⟩) 1 1]).run Tryz.prog ((w.alloc (.cells ROW 53)).drew) = .ok (goInt 1) (((w.alloc (.cells ROW 53)).drew).setCells w.heap.size (i * 2) [v, v2]) := fun ty dc => hcpA _ hE1 hE2 ty _ dc (by omega)
  clear hcpA
  go_wp2_with (at_builtin; refine Lib.wpList_append_run _ rfl _ _ _ _ rfl _ _ rfl rfl _ _ (hrz _) ?_)
  go_region_law_o (refine step_copy_runI rfl _ _ 46 46 rfl (.slice (some ⟨w.heap.size, (i + 1) * 2, none⟩) (n - i) (G - (i + 1))) (.slice (some ⟨g, i * 2, none⟩) (n - i) (c - i)) (by simp [Act.eval, Act.put]) (by simp [Act.eval, Act.put]) (hcpB _ hF1 hF2 3 (G - (i + 1)) (c - i)) ?_)
  go_wp2
  go_ret
  exact HF.out _ hHT.out hHA.out
theorem insR (B n c i : Nat) (A : Option Addr) (xs : List Value) (vb : Nat) (v v2 : Value) (w : World) (hB : B ≤ w.heap.size) (ho : Own w B 53 2 A n c xs) (hi : i ≤ n) (hn : n ≤ 1000000) (hv : Arr w vb 53 [v, v2]) (hne : ∀ p, A = some p → p.block ≠ vb) (o0 : v.oneCell' = true) (o1 : v2.oneCell' = true) (hx1 : ∀ u ∈ xs, u.oneCell' = true) :
    Calls Tryz.prog 142 #[.slice A n c, .int .i64 (i : Int), .slice (some ⟨vb, 0, none⟩) 1 1] w (GiveIn w B n i A xs v v2) := by
  by_cases h1 : i = n
  · subst h1
    exact insEnd B i c A xs vb v v2 w hB ho hn ⟨(hv.mine 0 rfl).cell⟩ ⟨(hv.mine 1 rfl).cell⟩ o0 o1
  · by_cases h2 : n + 1 ≤ c
    · exact insShift B n c i A xs vb v v2 w ho (by omega) h2 hn hv hne o0 o1 hx1
    · exact insGrow B n c i A xs vb v v2 w hB ho (by omega) (by omega) hn hv hne o0 o1 hx1
end Go.Proofs.YtgplpgldhoelcaaGreat

