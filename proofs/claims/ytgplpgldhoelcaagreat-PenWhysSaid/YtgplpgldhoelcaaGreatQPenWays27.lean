/- Contract: pen.Ways. -/
import Derived.Test.YtgplpgldhoelcaaGreatQPenWays00
import Derived.Test.YtgplpgldhoelcaaGreatQPenWays02
import Derived.Test.YtgplpgldhoelcaaGreatQPenWays08
import Derived.Test.YtgplpgldhoelcaaGreatQPenWays11
import Derived.Test.YtgplpgldhoelcaaGreatQPenWays23
import Derived.Test.YtgplpgldhoelcaaGreatQPenWays25
import Derived.Test.YtgplpgldhoelcaaGreatQPenWays26
namespace Go.Proofs.YtgplpgldhoelcaaGreat
open Go Go.RowKit
attribute [local go_sem] Oper.semAt_some
theorem RtsAt.cell2 {w : World} {B n c k : Nat} {A : Option Addr} {rs : List Rt} {F : Nat → List Nat × Nat} (h : RtsAt w B A c rs (pthK F n)) (hk : k < n) :
    ∃ b off Ak ck, A = some ⟨b, off, none⟩ ∧ Holds w ⟨b, off + k * 2, none⟩ (.slice Ak (F k).1.length ck) ∧ Holds w ⟨b, off + k * 2 + 1, none⟩ (.int .u64 ((F k).2 : Int)) ∧ Own w 0 3 1 Ak (F k).1.length ck (nv (F k).1) := by
  have hl : rs.length = n := by
    have := h.len
    simpa [pthK] using this
  have hk' : k < rs.length := by omega
  have e : ((rs.map (fun r => (r.2.2.1, r.2.2.2)))[k]?) = (pthK F n)[k]? := by rw [h.eqs]
  rw [List.getElem?_map, List.getElem?_eq_getElem hk'] at e
  have e2 : (pthK F n)[k]? = some (F k) := by unfold pthK; rw [List.getElem?_map, List.getElem?_range hk]; rfl
  rw [e2] at e
  have e3 : ((rs[k]).2.2.1, (rs[k]).2.2.2) = F k := by simpa using e
  obtain ⟨b, off, eA, hc⟩ := h.own.rd.2 (by omega) (by omega)
  have hrow := h.rows _ (List.getElem_mem hk')
  have hcell := hc (k * 2 + 0) _ (by rw [flat_get rtC 2 (fun _ => rfl) (none, 0, [], 0) rs k 0 (by omega) (by omega)]; rfl)
  have hcell2 := hc (k * 2 + 1) _ (by rw [flat_get rtC 2 (fun _ => rfl) (none, 0, [], 0) rs k 1 (by omega) (by omega)]; rfl)
  rw [List.getD_eq_getElem?_getD, List.getElem?_eq_getElem hk', Option.getD_some] at hcell hcell2
  have e4 : (F k).1 = (rs[k]).2.2.1 := by rw [← e3]
  have e5 : (F k).2 = (rs[k]).2.2.2 := by rw [← e3]
  rw [e4, e5]
  exact ⟨b, off, rs[k].1, rs[k].2.1, eA, ⟨hcell⟩, ⟨by rw [Nat.add_assoc]; exact hcell2⟩, hrow⟩
structure KpI (B : Nat) (F : Nat → List Nat × Nat) (q : List Nat) (n : Nat) (wr : World) (AL : Option Addr) (cL : Nat) (rsL : List Rt) (A8 : Option Addr) (c8 : Nat) (rs : List Rt) : Prop where
  l : RtsAt wr 0 AL cL rsL (pthK F n)
  lB : ∀ p, AL = some p → p.block < B
  out : RtsAt wr B A8 c8 rs (q.map F)
  lt : B ≤ wr.heap.size
theorem KpI.grows {B n cL c8 : Nat} {F : Nat → List Nat × Nat} {q : List Nat} {y z : World} {AL A8 : Option Addr} {rsL rs : List Rt} (h : KpI B F q n y AL cL rsL A8 c8 rs) (hg : Grows y z) : KpI B F q n z AL cL rsL A8 c8 rs :=
  ⟨h.l.grows hg, h.lB, h.out.grows hg, Nat.le_trans h.lt hg.size⟩
theorem KpI.app {B n i cL c8 : Nat} {F : Nat → List Nat × Nat} {q : List Nat} {y z w8 : World} {AL A8 Al : Option Addr} {cl : Nat} {rsL rs : List Rt} (h : KpI B F q n y AL cL rsL A8 c8 rs) (hg : Grows y z) (hl : Own z 0 3 1 Al (F i).1.length cl (nv (F i).1)) {A9 : Option Addr} {c9 : Nat}
    (hO : Own w8 B 53 2 A9 (rs.length + 1) c9 (rs.flatMap rtC ++ [.slice Al (F i).1.length cl, .int .u64 ((F i).2 : Int)])) (ht : Touch (fun j => ∃ p, A8 = some p ∧ p.block = j) z w8) :
    KpI B F (q ++ [i]) n w8 AL cL rsL A9 c9 (rs ++ [(Al, cl, F i)]) := by
  have hz := h.grows hg
  refine ⟨⟨hz.l.own.touch ht (fun p hp ⟨p2, hp2, e⟩ => ?_), fun r hr => (hz.l.rows r hr).touch ht (fun p hp ⟨p2, hp2, e⟩ => (hz.l.rows r hr).not_own hz.out.own (by decide) p p2 hp hp2 e.symm), hz.l.eqs⟩, h.lB, ?_, Nat.le_trans hz.lt ht.size⟩
  · have h1 := h.lB p hp
    have h2 := (hz.out.own.ty p2 hp2).1
    omega
  · rw [List.map_append]
    exact h.out.more hg hl hO ht
def GiveWs (w : World) (po : Bool) (r : Int) (n K : Nat) (why : Nat → List Nat → Int) (F : Nat → List Nat × Nat) (e : Ending) (w' : World) : Prop :=
  if po = false then e = .returned (.tuple #[.slice none 0 0, .int .i64 1]) ∧ Grows w w' else if r ≠ 0 then e = .returned (.tuple #[.slice none 0 0, .int .i64 r]) ∧ Grows w w' else ∃ A c rs, e = .returned (.tuple #[.slice A rs.length c, .int .i64 0]) ∧ RtsAt w' w.heap.size A c rs ((keepW why K n).map F) ∧ Grows w w'
set_option maxRecDepth 20000 in
set_option maxHeartbeats 16000000 in
theorem penWays (N s t : Int) (A : Option Addr) (m c : Nat) (K n : Nat) (P : Nat → List Nat) (V : Nat → Nat) (r R : Int) (po : Bool) (why : Nat → List Nat → Int) (w : World) (hn : n = R.toNat + 1) (hn2 : po = true → n ≤ 101) (hK : po = true → 1 ≤ K ∧ K ≤ 1024) (o : PO) (ho : po = true → o.k = (K : Int))
    (CT : ∀ X, Grows w X → Calls Tryz.prog 38 #[.agg #[.int .i64 N, .slice A m c], .int .i64 s, .int .i64 t, poV o] X (GiveTr X po r R P V))
    (CW : ∀ (k : Nat) (q : List Nat) (X : World), Grows w X → q.length ≤ 1000 → ∀ (Al : Option Addr) (cl : Nat) (A8 : Option Addr) (c8 B : Nat) (rs : List Rt), Own X 0 3 1 Al (P k).length cl (nv (P k)) → RtsAt X B A8 c8 rs (q.map fun j => (P j, V j)) →
      Calls Tryz.prog 42 #[.agg #[.int .i64 N, .slice A m c], .int .i64 s, .int .i64 t, .slice Al (P k).length cl, .slice A8 rs.length c8, poV o] X fun e w' => e = .returned (.int .i64 (why k q)) ∧ Grows X w') :
    Calls Tryz.prog 35 #[.agg #[.int .i64 N, .slice A m c], .int .i64 s, .int .i64 t, poV o] w (GiveWs w po r n K why (fun j => (P j, V j))) := by
  have E1 := hide (fun (e : Ending) (w' : World) (hh : e = .returned (.tuple #[.slice none 0 0, .int .i64 1]) ∧ Grows w w') => show GiveWs w false r n K why (fun j => (P j, V j)) e w' from by unfold GiveWs; rw [if_pos rfl]; exact hh)
  have E2 := hide (fun (h : r ≠ 0) (e : Ending) (w' : World) (hh : e = .returned (.tuple #[.slice none 0 0, .int .i64 r]) ∧ Grows w w') => show GiveWs w true r n K why (fun j => (P j, V j)) e w' from by unfold GiveWs; rw [if_neg (by decide), if_pos h]; exact hh)
  have E3 := hide (fun (h : r = 0) (e : Ending) (w' : World) (hh : ∃ A c rs, e = .returned (.tuple #[.slice A rs.length c, .int .i64 0]) ∧ RtsAt w' w.heap.size A c rs ((keepW why K n).map (fun j => (P j, V j))) ∧ Grows w w') => show GiveWs w true r n K why (fun j => (P j, V j)) e w' from by unfold GiveWs; rw [if_neg (by decide), if_neg (by omega)]; exact hh)
  have HK := hide hK
  have HN2 := hide hn2
  have HO_ := hide ho
  have CW := hide CW
  have CT1 := hide (fun (hp : po = false) (X : World) (g : Grows w X) => show Calls Tryz.prog 38 #[.agg #[.int .i64 N, .slice A m c], .int .i64 s, .int .i64 t, poV o] X fun e w' => e = .returned (.tuple #[.slice none 0 0, .int .i64 1]) ∧ Grows X w' from (CT X g).mono (fun e w' h => by unfold GiveTr at h; rw [if_pos hp] at h; exact h))
  have CT2 := hide (fun (hp : po = true) (hr : r ≠ 0) (X : World) (g : Grows w X) => show Calls Tryz.prog 38 #[.agg #[.int .i64 N, .slice A m c], .int .i64 s, .int .i64 t, poV o] X fun e w' => e = .returned (.tuple #[.slice none 0 0, .int .i64 r]) ∧ Grows X w' from (CT X g).mono (fun e w' h => by unfold GiveTr at h; rw [if_neg (by rw [hp]; decide), if_pos hr] at h; exact h))
  have CT3 := hide (fun (hp : po = true) (hr : r = 0) (X : World) (g : Grows w X) => show Calls Tryz.prog 38 #[.agg #[.int .i64 N, .slice A m c], .int .i64 s, .int .i64 t, poV o] X fun e w' => ∃ A c rs, e = .returned (.tuple #[.slice A rs.length c, .int .i64 0]) ∧ RtsAt w' X.heap.size A c rs (pthK (fun j => (P j, V j)) n) ∧ Grows X w' from (CT X g).mono (fun e w' h => by unfold GiveTr at h; rw [if_neg (by rw [hp]; decide), if_neg (by omega), ← hn] at h; exact h))
  clear CT hn hn2 hK ho
  obtain ⟨ok_, or_, f1, f2, a1, a2, e1, e2, g1, g2⟩ := o
  unfold poV at CT1 CT2 CT3 CW ⊢
  dsimp only at CT1 CT2 CT3 CW HO_ ⊢
  cases po with
  | false =>
    go_enter Tryz.func35, Tryz.ntmps35
    go_wp2_with fail
    go_step3
    go_wp2_with (go_at_call 38; refine (CT1.out (by trivial) _ GG).mono ?_; rintro e w' ⟨rfl, hg⟩; obtain ⟨x1, rfl⟩ := hg.later; clear hg)
    rw [Exit.noGoto_ret]
    refine bodyPost_ret (v := .tuple #[.slice none 0 0, .int .i64 1]) (by simp (maxDischargeDepth := 6) [results, Tryz.results35, go_sem, *]) rfl ?_
    exact E1.out _ _ ⟨rfl, GG⟩
  | true =>
  by_cases hr : r = 0
  rotate_left
  · have hrb : (r != 0) = true := by simpa using hr
    have HR := hide hr
    clear hr
    go_enter Tryz.func35, Tryz.ntmps35
    go_wp2_with fail
    go_step3
    go_wp2_with (go_at_call 38; refine (CT2.out (by trivial) HR.out _ GG).mono ?_; rintro e w' ⟨rfl, hg⟩; obtain ⟨x1, rfl⟩ := hg.later; clear hg)
    rw [Exit.noGoto_ret]
    refine bodyPost_ret (v := .tuple #[.slice none 0 0, .int .i64 r]) (by simp (maxDischargeDepth := 6) [results, Tryz.results35, go_sem, *]) rfl ?_
    exact E2.out HR.out _ _ ⟨rfl, GG⟩
  subst hr
  obtain ⟨hk1, hk2⟩ := HK.out rfl
  have hn101 := HN2.out rfl
  obtain rfl := HO_.out rfl
  clear CT1 CT2 HK HN2 HO_ E1 E2
  go_enter Tryz.func35, Tryz.ntmps35
  go_wp2_with fail
  go_step3
  obtain ⟨w0, hw0⟩ : ∃ W, W = (w.alloc (.cells #[.int .i64 N, .slice A m c] 35)).alloc (.cells #[.int .i64 (K : Int), .int .i64 or_, .int .u64 f1, .int .u64 f2, .int .u64 a1, .int .u64 a2, .int .u64 e1, .int .u64 e2, .int .u64 g1, .int .u64 g2] 73) := ⟨_, rfl⟩
  have hg0 : Grows w w0 := by rw [hw0]; exact ((Grows.refl _).new _).new _
  have a4 : Arr w0 w.heap.size 35 [.int .i64 N, .slice A m c] := by rw [hw0]; exact (Arr.make w _ _).grow ((Grows.refl _).new _)
  have a7 : Arr w0 (w.heap.size + 1) 73 [.int .i64 (K : Int), .int .i64 or_, .int .u64 f1, .int .u64 f2, .int .u64 a1, .int .u64 a2, .int .u64 e1, .int .u64 e2, .int .u64 g1, .int .u64 g2] := by
    rw [hw0]
    have h := Arr.make (w.alloc (.cells #[.int .i64 N, .slice A m c] 35)) [.int .i64 (K : Int), .int .i64 or_, .int .u64 f1, .int .u64 f2, .int .u64 a1, .int .u64 a2, .int .u64 e1, .int .u64 e2, .int .u64 g1, .int .u64 g2] 73
    have e : (w.alloc (.cells #[.int .i64 N, .slice A m c] 35)).heap.size = w.heap.size + 1 := by simp
    rwa [e] at h
  rw [← hw0]
  clear hw0
  generalize w.heap.size + 1 = b7 at *
  obtain ⟨b4, hb4⟩ : ∃ b, b = w.heap.size := ⟨_, rfl⟩
  rw [← hb4] at a4 ⊢
  have hsw := hg0.size
  clear hb4
  have m6 := a7.mine 6 rfl
  have m7 := a7.mine 7 rfl
  have m8 := a7.mine 8 rfl
  have m9 := a7.mine 9 rfl
  go_wp2_with (go_at_call 38; refine (CT3.out (by trivial) (by trivial) _ (hg0.trans GG)).mono ?_; rintro e w' ⟨AL, cL, rsL, rfl, hl, hg⟩; obtain ⟨x1, rfl⟩ := hg.later; have HL := hide hl; clear hg hl)
  go_step3
  have hlB : ∀ p, AL = some p → p.block < x1.now.heap.size := fun p hp => (HL.out.own.ty p hp).2.lt
  have hlen : rsL.length = n := by
    have := HL.out.len
    simpa [pthK] using this
  subst hlen
  have HKP := hide (show KpI x1.now.heap.size (fun j => (P j, V j)) (keepW why K 0) rsL.length x1.now AL cL rsL none 0 [] from ⟨⟨HL.out.own.base (Nat.zero_le _), HL.out.rows, HL.out.eqs⟩, hlB, RtsAt.nil _ _, Nat.le_refl _⟩)
  have hB0 : w0.heap.size ≤ x1.now.heap.size := x1.grows.size
  clear HL hlB CT3
  generalize x1.now.heap.size = B at *
  go_wp2_with fail
  go_loopw [8, 26] (fun out tk wr => ∃ (i : Nat) (A8 : Option Addr) (c8 : Nat) (rs : List Rt), i ≤ rsL.length ∧ tk = .int .i64 (i : Int) ∧ out = .slice A8 rs.length c8 ∧ ∃ y : Later w0, wr = y.now ∧ KpI B (fun j => (P j, V j)) (keepW why K i) rsL.length y.now AL cL rsL A8 c8 rs) (fun _ tk _ => rsL.length - (Go.RowKit.intOf tk).toNat)
  case atStart => exact ⟨0, none, 0, [], Nat.zero_le _, by go_num, rfl, x1, rfl, HKP.out⟩
  case round =>
    clear HKP
    obtain ⟨i, A8, c8, rs, hi, rfl, rfl, y, rfl, hI⟩ := hrel
    have hrl : rs.length = (keepW why K i).length := by
      have := hI.out.len
      simpa using this
    have hkl := keepW_len why K i
    have HRL := hide hrl
    have hle : rs.length ≤ 101 := by omega
    clear hrl
    have HI := hide hI
    clear hI
    by_cases hlt : i < rsL.length
    · have hltb : (decide (i < rsL.length)) = true := decide_eq_true hlt
      obtain ⟨bL, oL, Ai, ci, eAL, hc1, hc2, hoi⟩ := HI.out.l.cell2 (k := i) hlt
      subst eAL
      dsimp only at hc1 hc2 hoi
      have HOI := hide hoi
      clear hoi
      by_cases hfull : rs.length = K
      · have HFU := hide (show keepW why K rsL.length = keepW why K i from by
          have := keepW_full (why := why) (K := K) (k := i) (by rw [← HRL.out]; exact hfull) (rsL.length - i)
          rwa [show i + (rsL.length - i) = rsL.length by omega] at this)
        have hfb : ((rs.length : Int) == (K : Int)) = true := beq_iff_eq.2 (by omega)
        have HFL := hide hfull
        clear hfull
        go_wp2_with fail
        rw [Exit.noGoto_ret]
        refine bodyPost_ret (v := .tuple #[.slice A8 rs.length c8, .int .i64 0]) (by simp (maxDischargeDepth := 6) [results, Tryz.results35, go_sem]) rfl ?_
        refine E3.out (by trivial) _ _ ⟨A8, c8, rs, rfl, ?_, hg0.trans GG⟩
        rw [HFU.out]
        have h1 := HI.out.out
        exact ⟨(h1.own.base (by omega)).grows GG, fun r hr => (h1.rows r hr).grows GG, h1.eqs⟩
      · have hfb : ((rs.length : Int) == (K : Int)) = false := beq_eq_false_iff_ne.2 (by omega)
        have HLE := hide (keepW_le why K i).1
        have HLT := hide (show (keepW why K i).length < K by have := (keepW_le why K i).1; have := HRL.out; omega)
        clear hfull
        by_cases hz : i = 0
        · have HKY := hide (keepW_yes (why := why) HLT.out (.inl hz))
          have hzb : ((i : Int) == 0) = true := by simpa using hz
          clear hz
          go_wp2_with (at_builtin; refine wp_appT elemRoute rfl _ _ rfl B (Nat.le_trans HI.out.lt (show Grows y.now _ from GG).size) rs.length c8 A8 _ rfl (HI.out.out.own.grows (show Grows y.now _ from GG)) _ _ [.slice Ai (P i).length ci, .int .u64 (V i : Int)] rfl rfl (fun j u hu => by
              match j, hu with
              | 0, hu => simp at hu; subst hu; simp [go_sem]
              | 1, hu => simp at hu; subst hu; simp [go_sem]) (fun u hu => by simp at hu; rcases hu with rfl | rfl <;> rfl) (by omega) ?_; intro A9 c9 w8 hown8 ht8 hn8; have HT8 := hide (HI.out.app (i := i) (show Grows y.now _ from GG) (HOI.out.grows (show Grows y.now _ from GG)) hown8 ht8); have hg8 := ht8.later (show Grows w0 _ from GG) (fun j hj => by obtain ⟨p, hp, e⟩ := hj; have := (HI.out.out.own.ty p hp).1; omega); obtain ⟨y8, rfl⟩ := hg8.later; clear hown8 ht8 hn8 hg8)
          go_roundw
          case measure => simp [Go.RowKit.intOf]; omega
          case rel => exact ⟨i + 1, A9, c9, rs ++ [(Ai, ci, (P i, V i))], by omega, by go_num, by rw [List.length_append, List.length_singleton], y8, rfl, by rw [HKY.out]; exact HT8.out⟩
        · have hzb : ((i : Int) == 0) = false := by simpa using hz
          have HW := hide (fun (X : World) (g : Grows y.now X) => CW.out i (keepW why K i) X (hg0.trans (y.grows.trans g)) (by have := HRL.out; omega) Ai ci A8 c8 B rs (HOI.out.grows g) (HI.out.out.grows g))
          by_cases hwz : why i (keepW why K i) = 0
          · have HKY := hide (keepW_yes (why := why) HLT.out (.inr hwz))
            rw [hwz] at HW
            clear hz hwz
            go_wp2_with (first
              | (go_at_call 42; refine (HW.out _ GG).mono ?_; rintro e w' ⟨rfl, hg⟩; obtain ⟨z1, rfl⟩ := hg.later; clear hg)
              | (at_builtin; refine wp_appT elemRoute rfl _ _ rfl B (Nat.le_trans HI.out.lt (show Grows y.now _ from GG).size) rs.length c8 A8 _ rfl (HI.out.out.own.grows (show Grows y.now _ from GG)) _ _ [.slice Ai (P i).length ci, .int .u64 (V i : Int)] rfl rfl (fun j u hu => by
              match j, hu with
              | 0, hu => simp at hu; subst hu; simp [go_sem]
              | 1, hu => simp at hu; subst hu; simp [go_sem]) (fun u hu => by simp at hu; rcases hu with rfl | rfl <;> rfl) (by omega) ?_; intro A9 c9 w8 hown8 ht8 hn8; have HT8 := hide (HI.out.app (i := i) (show Grows y.now _ from GG) (HOI.out.grows (show Grows y.now _ from GG)) hown8 ht8); have hg8 := ht8.later (show Grows w0 _ from GG) (fun j hj => by obtain ⟨p, hp, e⟩ := hj; have := (HI.out.out.own.ty p hp).1; omega); obtain ⟨y8, rfl⟩ := hg8.later; clear hown8 ht8 hn8 hg8))
            go_roundw
            case measure => simp [Go.RowKit.intOf]; omega
            case rel => exact ⟨i + 1, A9, c9, rs ++ [(Ai, ci, (P i, V i))], by omega, by go_num, by rw [List.length_append, List.length_singleton], y8, rfl, by rw [HKY.out]; exact HT8.out⟩
          · have HKY := hide (keepW_no (why := why) (K := K) (k := i) (fun e => e.2.elim hz hwz))
            have hwb : (why i (keepW why K i) == 0) = false := by simpa using hwz
            generalize why i (keepW why K i) = wv_ at *
            clear hz hwz
            go_wp2_with (go_at_call 42; refine (HW.out _ GG).mono ?_; rintro e w' ⟨rfl, hg⟩; obtain ⟨z1, rfl⟩ := hg.later; clear hg)
            go_roundw
            case measure => simp [Go.RowKit.intOf]; omega
            case rel =>
              have hgz : Grows w0 z1.now := GG
              have hgy : Grows y.now z1.now := GG
              exact ⟨i + 1, A8, c8, rs, by omega, by go_num, rfl, ⟨z1.now, hgz⟩, rfl, by rw [HKY.out]; exact HI.out.grows hgy⟩
    · obtain rfl : i = rsL.length := by omega
      go_wp2_with fail
      rw [Exit.noGoto_ret]
      refine bodyPost_ret (v := .tuple #[.slice A8 rs.length c8, .int .i64 0]) (by simp (maxDischargeDepth := 6) [results, Tryz.results35, go_sem]) rfl ?_
      exact E3.out (by trivial) _ _ ⟨A8, c8, rs, rfl, ⟨HI.out.out.own.base (by omega), HI.out.out.rows, HI.out.out.eqs⟩, hg0.trans GG⟩
end Go.Proofs.YtgplpgldhoelcaaGreat

namespace Go.Proofs.YtgplpgldhoelcaaGreat
open Go Go.RowKit
section
variable {w : World} {e : TypeId} {ops : Array Oper} {rest : List Oper} {o : Oper} {a : Act} {Q : Exit → Act → World → Prop}
theorem wp_appFull {t : TypeId} {size : Nat} (E : Elem t e size) (hgd : o.guard = none) (s x : Operand) (ho : o.op = .call { callee := .builtin .append, args := #[s, x], argTypes := #[t, t] })
    (B : Nat) (hB : B ≤ w.heap.size) (n c b off : Nat) (xs : List Value) (hs : a.eval s = .slice (some ⟨b, off, none⟩) n c) (hfull : c < n + 1) (hn0 : 0 < n) (hr : Rd w (some ⟨b, off, none⟩) size n xs) (g c' : Nat) (news : List Value) (hx : a.eval x = .slice (some ⟨g, 0, none⟩) 1 c')
    (hl : news.length = size) (hv : ∀ j u, news[j]? = some u → w.cell? ⟨g, j, none⟩ = some u) (hnm : n + 1 ≤ 1000000)
    (h : ∀ A' c'' w', Own w' B e size A' (n + 1) c'' (xs ++ news) → Grows w w' → (∀ p, A' = some p → New w w' p.block) → wpList Tryz.prog ops Q rest (a.put o.dst (.slice A' (n + 1) c'')) w') :
    wpList Tryz.prog ops Q (o :: rest) a w := by
  obtain ⟨i, z, bytes, hi, hz, hsz, hby, hzs, hb64⟩ := E.info
  obtain ⟨b', off', eb, hc⟩ := hr.2 hn0 E.pos
  obtain ⟨rfl, rfl⟩ : b = b' ∧ off = off' := by injection eb with e1; injection e1 with e1 e2; exact ⟨e1, e2⟩
  have hxl : xs.length = n * size := hr.1
  have hrun := run_append_grow (P := Tryz.prog) w t o.type e i z E.under hi hz ⟨b, off, none⟩ n c xs (by rw [hxl, hsz]) (fun j v hj => by rw [add_pl2]; exact hc j v hj) ⟨g, 0, none⟩ 1 c' news (by omega) (fun j u hu => by rw [add_pl2, Nat.zero_add]; exact hv j u hu) hfull (by omega) (growslice_fits (by omega) (by rw [hby]; exact Nat.le_trans (Nat.mul_le_mul hnm hb64) (by omega)))
  refine Lib.wpList_append_run w hgd s x t t ho _ _ hs hx _ _ hrun ?_
  have hge := grownCap_ge w (n + 1) c e
  have hcm := grownCap_le_maxLen w (n + 1) c e (by unfold maxLen; omega)
  refine h _ _ _ ⟨by rw [List.length_append, hxl, hl, Nat.add_mul, Nat.one_mul], .inr ⟨w.heap.size, _, _, rfl, hB, heap_alloc_new w.drew _, hge, hcm, ?_, ?_⟩⟩ (by exact ((Grows.refl w).drew).new _) (fun p hp => ?_)
  · simp only [Array.size_append, List.size_toArray, size_zeroCells, hzs, hxl, hl]
    generalize grownCap w (n + 1) c e = G at hge ⊢
    obtain ⟨d, rfl⟩ : ∃ d, G = n + 1 + d := ⟨G - (n + 1), by omega⟩
    rw [Nat.add_sub_cancel_left, Nat.add_mul, Nat.add_mul, Nat.one_mul]
  · simp only [Array.toList_append, List.append_assoc]
    rw [← List.append_assoc, show (n + 1) * size = (xs ++ news).length by rw [List.length_append, hxl, hl, Nat.add_mul, Nat.one_mul]]
    exact List.take_left
  · injection hp with hp
    subst hp
    exact ⟨Nat.le_refl _, by simp⟩
end
end Go.Proofs.YtgplpgldhoelcaaGreat

namespace Go.Proofs.YtgplpgldhoelcaaGreat
open Go Go.RowKit
structure RtsRd (w : World) (A : Option Addr) (rs : List Rt) (ps : List (List Nat × Nat)) : Prop where
  rd : Rd w A 2 rs.length (rs.flatMap rtC)
  rows : ∀ r, r ∈ rs → Own w 0 3 1 r.1 r.2.2.1.length r.2.1 (nv r.2.2.1)
  eqs : rs.map (fun r => (r.2.2.1, r.2.2.2)) = ps
theorem RtsAt.toRd {w : World} {B c : Nat} {A : Option Addr} {rs : List Rt} {ps : List (List Nat × Nat)} (h : RtsAt w B A c rs ps) : RtsRd w A rs ps := ⟨h.own.rd, h.rows, h.eqs⟩
theorem RtsRd.grows {w w' : World} {A : Option Addr} {rs : List Rt} {ps : List (List Nat × Nat)} (h : RtsRd w A rs ps) (hg : Grows w w') : RtsRd w' A rs ps := ⟨h.rd.grows hg, fun r hr => (h.rows r hr).grows hg, h.eqs⟩
theorem RtsAt.first {w : World} {B n c : Nat} {A : Option Addr} {rs : List Rt} {F : Nat → List Nat × Nat} (h : RtsAt w B A c rs (pthK F n)) (hn : 0 < n) : ∃ b off r, A = some ⟨b, off, none⟩ ∧ RtsRd w A [r] [F 0] := by
  obtain ⟨b, off, Ak, ck, e, h1, h2, h3⟩ := h.cell2 hn
  refine ⟨b, off, (Ak, ck, F 0), e, ?_, fun r hr => ?_, rfl⟩
  · rw [e]
    refine ⟨rfl, fun _ _ => ⟨b, off, rfl, fun i v hi => ?_⟩⟩
    match i, hi with
    | 0, hi =>
      simp [rtC] at hi
      subst hi
      simpa using h1.cell
    | 1, hi =>
      simp [rtC] at hi
      subst hi
      simpa using h2.cell
  · rw [List.mem_singleton.1 hr]
    exact h3
theorem RtsRd.had {w : World} {A : Option Addr} {rs : List Rt} {ps : List (List Nat × Nat)} (h : RtsRd w A rs ps) : HadAt w A (rs.map rtH).length (rs.map rtH) ∧ (rs.map rtH).map (·.xs) = ps.map (fun p => icL p.1) := by
  refine ⟨⟨?_, fun x hx => ?_⟩, ?_⟩
  · rw [rtH_cells, List.length_map]
    exact h.rd
  · obtain ⟨r, hr, rfl⟩ := List.mem_map.1 hx
    have ho := h.rows r hr
    exact ⟨by show Rd w r.1 1 r.2.2.1.length ((icL r.2.2.1).map (.int .i64)); rw [← icL_nv]; exact ho.rd, ho.cap⟩
  · rw [← h.eqs, List.map_map, List.map_map]
    rfl
theorem RtsRd.wayIn {w : World} {A : Option Addr} {rs : List Rt} {N s t : Int} {E : List Edg} {f1 f2 : Int} {W P : Nat → List Nat} {V : Nat → Nat} {q : List Nat} (hT : TrOk N s t E f1 f2 W P V) (hN : N ≤ 1000 ∨ 4096 < N) (hE : E.length ≤ 1000000) (hq : q.length ≤ 100000) (h : RtsRd w A rs (q.map fun j => (P j, V j)))
    {k cl : Nat} {Al : Option Addr} (ho : Own w 0 3 1 Al (P k).length cl (nv (P k))) : WayIn w Al cl (icL (P k)) A (rs.map rtH) ∧ (rs.map rtH).map (·.xs) = q.map (fun j => icL (P j)) := by
  obtain ⟨h1, h2⟩ := h.had
  have h3 : (rs.map rtH).map (·.xs) = q.map (fun j => icL (P j)) := by rw [h2, List.map_map]; rfl
  have hln : (rs.map rtH).length = q.length := by have := congrArg List.length h3; simpa using this
  refine ⟨⟨?_, ?_, ?_, fun j hj => ?_, h1, by omega, fun x hx => ?_⟩, h3⟩
  · rw [icL_len, ← icL_nv]; exact ho.rd
  · rw [icL_len]; exact hT.below hN k
  · rw [icL_len]; exact ho.cap
  · exact icL_i64 (hT.edges k) hE j (by rw [icL_len] at hj; exact hj)
  · obtain ⟨r, hr, rfl⟩ := List.mem_map.1 hx
    have hm : (r.2.2.1, r.2.2.2) ∈ q.map (fun j => (P j, V j)) := by rw [← h.eqs]; exact List.mem_map.2 ⟨r, hr, rfl⟩
    obtain ⟨j, hj, e⟩ := List.mem_map.1 hm
    have e1 : r.2.2.1 = P j := by injection e with e _; exact e.symm
    show r.2.2.1.length ≤ 1000 ∧ ∀ j, j < r.2.2.1.length → I64 (gi (icL r.2.2.1) j)
    rw [e1]
    exact ⟨hT.below hN j, fun i hi => icL_i64 (hT.edges j) hE i hi⟩
end Go.Proofs.YtgplpgldhoelcaaGreat

namespace Go.Proofs.YtgplpgldhoelcaaGreat
open Go Go.RowKit
attribute [local go_sem] Oper.semAt_some
structure KpR (B : Nat) (F : Nat → List Nat × Nat) (q : List Nat) (n : Nat) (wr : World) (AL : Option Addr) (cL : Nat) (rsL : List Rt) (A8 : Option Addr) (c8 : Nat) (rs : List Rt) : Prop where
  l : RtsAt wr 0 AL cL rsL (pthK F n)
  lB : ∀ p, AL = some p → p.block < B
  out : RtsRd wr A8 rs (q.map F)
  how : (A8 = AL ∧ c8 = 1 ∧ rs.length = 1) ∨ RtsAt wr B A8 c8 rs (q.map F)
  lt : B ≤ wr.heap.size
theorem KpR.grows {B n cL c8 : Nat} {F : Nat → List Nat × Nat} {q : List Nat} {y z : World} {AL A8 : Option Addr} {rsL rs : List Rt} (h : KpR B F q n y AL cL rsL A8 c8 rs) (hg : Grows y z) : KpR B F q n z AL cL rsL A8 c8 rs :=
  ⟨h.l.grows hg, h.lB, h.out.grows hg, h.how.imp id (fun k => k.grows hg), Nat.le_trans h.lt hg.size⟩
theorem KpR.full {B n i cL c8 : Nat} {F : Nat → List Nat × Nat} {q : List Nat} {y z w8 : World} {AL A8 Al : Option Addr} {cl : Nat} {rsL rs : List Rt} (h : KpR B F q n y AL cL rsL A8 c8 rs) (hg : Grows y z) (hl : Own z 0 3 1 Al (F i).1.length cl (nv (F i).1)) {A9 : Option Addr} {c9 : Nat}
    (hO : Own w8 B 53 2 A9 (rs.length + 1) c9 (rs.flatMap rtC ++ [.slice Al (F i).1.length cl, .int .u64 ((F i).2 : Int)])) (hg8 : Grows z w8) : KpR B F (q ++ [i]) n w8 AL cL rsL A9 c9 (rs ++ [(Al, cl, F i)]) := by
  have hz := (h.grows hg).grows hg8
  have hat : RtsAt w8 B A9 c9 (rs ++ [(Al, cl, F i)]) ((q ++ [i]).map F) := by
    refine ⟨?_, fun x hx => ?_, ?_⟩
    · rw [List.length_append, List.length_singleton, List.flatMap_append]
      exact hO
    · rcases List.mem_append.1 hx with hx | hx
      · exact hz.out.rows x hx
      · rw [List.mem_singleton.1 hx]; exact hl.grows hg8
    · rw [List.map_append, List.map_append, hz.out.eqs]
      rfl
  exact ⟨hz.l, h.lB, hat.toRd, .inr hat, hz.lt⟩
theorem KpR.app {B n i cL c8 : Nat} {F : Nat → List Nat × Nat} {q : List Nat} {y z w8 : World} {AL A8 Al : Option Addr} {cl : Nat} {rsL rs : List Rt} (h : KpR B F q n y AL cL rsL A8 c8 rs) (ha : RtsAt y B A8 c8 rs (q.map F)) (hg : Grows y z) (hl : Own z 0 3 1 Al (F i).1.length cl (nv (F i).1)) {A9 : Option Addr} {c9 : Nat}
    (hO : Own w8 B 53 2 A9 (rs.length + 1) c9 (rs.flatMap rtC ++ [.slice Al (F i).1.length cl, .int .u64 ((F i).2 : Int)])) (ht : Touch (fun j => ∃ p, A8 = some p ∧ p.block = j) z w8) :
    KpR B F (q ++ [i]) n w8 AL cL rsL A9 c9 (rs ++ [(Al, cl, F i)]) := by
  have hk := KpI.app ⟨h.l, h.lB, ha, h.lt⟩ hg hl hO ht
  exact ⟨hk.l, hk.lB, hk.out.toRd, .inr hk.out, hk.lt⟩
def GiveWr (w : World) (po : Bool) (r : Int) (n K : Nat) (why : Nat → List Nat → Int) (F : Nat → List Nat × Nat) (e : Ending) (w' : World) : Prop :=
  if po = false then e = .returned (.tuple #[.slice none 0 0, .int .i64 1]) ∧ Grows w w' else if r ≠ 0 then e = .returned (.tuple #[.slice none 0 0, .int .i64 r]) ∧ Grows w w' else ∃ A c rs, e = .returned (.tuple #[.slice A rs.length c, .int .i64 0]) ∧ RtsRd w' A rs ((keepW why K n).map F) ∧ Grows w w'
set_option maxRecDepth 20000 in
set_option maxHeartbeats 16000000 in
theorem r32Ways (N s t : Int) (A : Option Addr) (m c : Nat) (K n : Nat) (P : Nat → List Nat) (V : Nat → Nat) (r R : Int) (po : Bool) (why : Nat → List Nat → Int) (w : World) (hn : n = R.toNat + 1) (hn2 : po = true → n ≤ 101) (hK : po = true → 1 ≤ K ∧ K ≤ 1024) (o : PO) (ho : po = true → o.k = (K : Int))
    (CT : ∀ X, Grows w X → Calls Tryz.prog 39 #[.agg #[.int .i64 N, .slice A m c], .int .i64 s, .int .i64 t, poV o] X (GiveTr X po r R P V))
    (CW : ∀ (k : Nat) (q : List Nat) (X : World), Grows w X → q.length ≤ 1000 → ∀ (Al : Option Addr) (cl : Nat) (A8 : Option Addr) (c8 : Nat) (rs : List Rt), Own X 0 3 1 Al (P k).length cl (nv (P k)) → RtsRd X A8 rs (q.map fun j => (P j, V j)) →
      Calls Tryz.prog 43 #[.agg #[.int .i64 N, .slice A m c], .int .i64 s, .int .i64 t, .slice Al (P k).length cl, .slice A8 rs.length c8, poV o] X fun e w' => e = .returned (.int .i64 (why k q)) ∧ Grows X w') :
    Calls Tryz.prog 36 #[.agg #[.int .i64 N, .slice A m c], .int .i64 s, .int .i64 t, poV o] w (GiveWr w po r n K why (fun j => (P j, V j))) := by
  have E1 := hide (fun (e : Ending) (w' : World) (hh : e = .returned (.tuple #[.slice none 0 0, .int .i64 1]) ∧ Grows w w') => show GiveWr w false r n K why (fun j => (P j, V j)) e w' from by unfold GiveWr; rw [if_pos rfl]; exact hh)
  have E2 := hide (fun (h : r ≠ 0) (e : Ending) (w' : World) (hh : e = .returned (.tuple #[.slice none 0 0, .int .i64 r]) ∧ Grows w w') => show GiveWr w true r n K why (fun j => (P j, V j)) e w' from by unfold GiveWr; rw [if_neg (by decide), if_pos h]; exact hh)
  have E3 := hide (fun (h : r = 0) (e : Ending) (w' : World) (hh : ∃ A c rs, e = .returned (.tuple #[.slice A rs.length c, .int .i64 0]) ∧ RtsRd w' A rs ((keepW why K n).map (fun j => (P j, V j))) ∧ Grows w w') => show GiveWr w true r n K why (fun j => (P j, V j)) e w' from by unfold GiveWr; rw [if_neg (by decide), if_neg (by omega)]; exact hh)
  have HK := hide hK
  have HN2 := hide hn2
  have HN1 := hide (show 1 ≤ n by omega)
  have HO_ := hide ho
  have CW := hide CW
  have CT1 := hide (fun (hp : po = false) (X : World) (g : Grows w X) => show Calls Tryz.prog 39 #[.agg #[.int .i64 N, .slice A m c], .int .i64 s, .int .i64 t, poV o] X fun e w' => e = .returned (.tuple #[.slice none 0 0, .int .i64 1]) ∧ Grows X w' from (CT X g).mono (fun e w' h => by unfold GiveTr at h; rw [if_pos hp] at h; exact h))
  have CT2 := hide (fun (hp : po = true) (hr : r ≠ 0) (X : World) (g : Grows w X) => show Calls Tryz.prog 39 #[.agg #[.int .i64 N, .slice A m c], .int .i64 s, .int .i64 t, poV o] X fun e w' => e = .returned (.tuple #[.slice none 0 0, .int .i64 r]) ∧ Grows X w' from (CT X g).mono (fun e w' h => by unfold GiveTr at h; rw [if_neg (by rw [hp]; decide), if_pos hr] at h; exact h))
  have CT3 := hide (fun (hp : po = true) (hr : r = 0) (X : World) (g : Grows w X) => show Calls Tryz.prog 39 #[.agg #[.int .i64 N, .slice A m c], .int .i64 s, .int .i64 t, poV o] X fun e w' => ∃ A c rs, e = .returned (.tuple #[.slice A rs.length c, .int .i64 0]) ∧ RtsAt w' X.heap.size A c rs (pthK (fun j => (P j, V j)) n) ∧ Grows X w' from (CT X g).mono (fun e w' h => by unfold GiveTr at h; rw [if_neg (by rw [hp]; decide), if_neg (by omega), ← hn] at h; exact h))
  clear CT hn hn2 hK ho
  obtain ⟨ok_, or_, f1, f2, a1, a2, e1, e2, g1, g2⟩ := o
  unfold poV at CT1 CT2 CT3 CW ⊢
  dsimp only at CT1 CT2 CT3 CW HO_ ⊢
  cases po with
  | false =>
    go_enter Tryz.func36, Tryz.ntmps36
    go_wp2_with (go_at_call 39; refine (CT1.out (by trivial) _ GG).mono ?_; rintro e w' ⟨rfl, hg⟩; obtain ⟨x1, rfl⟩ := hg.later; clear hg)
    refine bodyPost_ret (v := .tuple #[.slice none 0 0, .int .i64 1]) (by simp (maxDischargeDepth := 6) [results, Tryz.results36, go_sem, *]) rfl ?_
    exact E1.out _ _ ⟨rfl, GG⟩
  | true =>
  by_cases hr : r = 0
  rotate_left
  · have hrb : (r != 0) = true := by simpa using hr
    have HR := hide hr
    clear hr
    go_enter Tryz.func36, Tryz.ntmps36
    go_wp2_with (go_at_call 39; refine (CT2.out (by trivial) HR.out _ GG).mono ?_; rintro e w' ⟨rfl, hg⟩; obtain ⟨x1, rfl⟩ := hg.later; clear hg)
    refine bodyPost_ret (v := .tuple #[.slice none 0 0, .int .i64 r]) (by simp (maxDischargeDepth := 6) [results, Tryz.results36, go_sem, *]) rfl ?_
    exact E2.out HR.out _ _ ⟨rfl, GG⟩
  subst hr
  obtain ⟨hk1, hk2⟩ := HK.out rfl
  have hn101 := HN2.out rfl
  obtain rfl := HO_.out rfl
  clear CT1 CT2 HK HN2 HO_ E1 E2
  go_enter Tryz.func36, Tryz.ntmps36
  go_upto_region 1 with fail
  obtain ⟨w0, hw0⟩ : ∃ W, W = (w.alloc (.cells #[.int .i64 N, .slice A m c] 35)).alloc (.cells #[.int .i64 (K : Int), .int .i64 or_, .int .u64 f1, .int .u64 f2, .int .u64 a1, .int .u64 a2, .int .u64 e1, .int .u64 e2, .int .u64 g1, .int .u64 g2] 77) := ⟨_, rfl⟩
  have hg0 : Grows w w0 := by rw [hw0]; exact ((Grows.refl _).new _).new _
  have a4 : Arr w0 w.heap.size 35 [.int .i64 N, .slice A m c] := by rw [hw0]; exact (Arr.make w _ _).grow ((Grows.refl _).new _)
  have a7 : Arr w0 (w.heap.size + 1) 77 [.int .i64 (K : Int), .int .i64 or_, .int .u64 f1, .int .u64 f2, .int .u64 a1, .int .u64 a2, .int .u64 e1, .int .u64 e2, .int .u64 g1, .int .u64 g2] := by
    rw [hw0]
    have h := Arr.make (w.alloc (.cells #[.int .i64 N, .slice A m c] 35)) [.int .i64 (K : Int), .int .i64 or_, .int .u64 f1, .int .u64 f2, .int .u64 a1, .int .u64 a2, .int .u64 e1, .int .u64 e2, .int .u64 g1, .int .u64 g2] 77
    have e : (w.alloc (.cells #[.int .i64 N, .slice A m c] 35)).heap.size = w.heap.size + 1 := by simp
    rwa [e] at h
  rw [← hw0]
  clear hw0
  generalize w.heap.size + 1 = b7 at *
  obtain ⟨b4, hb4⟩ : ∃ b, b = w.heap.size := ⟨_, rfl⟩
  rw [← hb4] at a4 ⊢
  have hsw := hg0.size
  clear hb4
  have m6 := a7.mine 6 rfl
  have m7 := a7.mine 7 rfl
  have m8 := a7.mine 8 rfl
  have m9 := a7.mine 9 rfl
  go_upto_region 4 with (go_at_call 39; refine (CT3.out (by trivial) (by trivial) _ (hg0.trans GG)).mono ?_; rintro e w' ⟨AL, cL, rsL, rfl, hl, hg⟩; obtain ⟨x1, rfl⟩ := hg.later; have HL := hide hl; clear hg hl)
  have hlB : ∀ p, AL = some p → p.block < x1.now.heap.size := fun p hp => (HL.out.own.ty p hp).2.lt
  have hlen : rsL.length = n := by
    have := HL.out.len
    simpa [pthK] using this
  have hn1 := HN1.out
  subst hlen
  have hcap : 1 ≤ cL := by have := HL.out.own.cap; omega
  obtain ⟨bL, oL, r0, eAL, hfst⟩ := HL.out.first (by omega)
  have HKP := hide (show KpR x1.now.heap.size (fun j => (P j, V j)) (keepW why K 1) rsL.length x1.now AL cL rsL AL 1 [r0] from ⟨⟨HL.out.own.base (Nat.zero_le _), HL.out.rows, HL.out.eqs⟩, hlB, by rw [keepW_yes (why := why) (K := K) (k := 0) (by show 0 < K; omega) (.inl rfl)]; exact hfst, .inl ⟨rfl, rfl, rfl⟩, Nat.le_refl _⟩)
  have hB0 : w0.heap.size ≤ x1.now.heap.size := x1.grows.size
  subst eAL
  clear HL hlB CT3 hfst
  generalize x1.now.heap.size = B at *
  go_wp2_with fail
  go_loopw [12, 13] (fun out tk wr => ∃ (i : Nat) (A8 : Option Addr) (c8 : Nat) (rs : List Rt), 1 ≤ i ∧ i ≤ rsL.length ∧ tk = .int .i64 (i : Int) ∧ out = .slice A8 rs.length c8 ∧ ∃ y : Later w0, wr = y.now ∧ KpR B (fun j => (P j, V j)) (keepW why K i) rsL.length y.now (some ⟨bL, oL, none⟩) cL rsL A8 c8 rs) (fun _ tk _ => rsL.length - (Go.RowKit.intOf tk).toNat)
  case atStart => exact ⟨1, _, 1, [r0], Nat.le_refl _, hn1, by go_num, rfl, x1, rfl, HKP.out⟩
  case round =>
    clear HKP
    obtain ⟨i, A8, c8, rs, hi1, hi, rfl, rfl, y, rfl, hI⟩ := hrel
    have hrl : rs.length = (keepW why K i).length := by
      have := congrArg List.length hI.out.eqs
      simpa using this
    have hkl := keepW_len why K i
    have hkK := (keepW_le why K i).1
    have HRL := hide hrl
    have hle : rs.length ≤ 101 := by omega
    have hleK : rs.length ≤ K := by omega
    clear hrl
    have HI := hide hI
    clear hI
    by_cases hlt : i < rsL.length
    · have hltb : (decide (i < rsL.length)) = true := decide_eq_true hlt
      by_cases hfull : rs.length < K
      · have hfb : (decide (rs.length < K)) = true := decide_eq_true hfull
        obtain ⟨bL2, oL2, Ai, ci, eAL, hc1, hc2, hoi⟩ := HI.out.l.cell2 (k := i) hlt
        injection eAL with eAL
        injection eAL with e1_ e2_
        subst e1_ e2_
        dsimp only at hc1 hc2 hoi
        have HOI := hide hoi
        clear hoi
        have HLT := hide (show (keepW why K i).length < K by have := HRL.out; omega)
        have HW := hide (fun (X : World) (g : Grows y.now X) => CW.out i (keepW why K i) X (hg0.trans (y.grows.trans g)) (by have := HRL.out; omega) Ai ci A8 c8 rs (HOI.out.grows g) (HI.out.out.grows g))
        by_cases hwz : why i (keepW why K i) = 0
        · have HKY := hide (keepW_yes (why := why) HLT.out (.inr hwz))
          rw [hwz] at HW
          clear hwz
          go_wp2_with fail
          ((first | refine wp_region_gen (by kernel_rfl) (by kernel_rfl) ?_); (repeat' ((first | refine gLex_val0 rfl (by kernel_rfl) (fun K hK => ?_) | refine gLex_undef rfl rfl rfl (by kernel_rfl) (fun K hK => ?_) | (refine gLex_ask rfl rfl rfl ?_; first | (apply gAsk_yes; kernel_rfl; intro K hK) | ((first | apply gAsk_no1 | apply gAsk_no2); kernel_rfl; intro K hK) | (apply gAsk_part; kernel_rfl; all_goals (intro h K hK; (try simp only [Bool.not_true] at h); (try simp only [Bool.not_false] at h); (try simp only [decide_eq_true_eq] at h); (try simp only [decide_eq_false_iff_not] at h); try (exfalso; first | contradiction | omega))))) <;> (go_simp; (try (simp only [↓IntWalk.iteOmega]; try go_simp)); (try simp (disch := omega) only [IntWalk.i64_in]); (try simp (disch := omega) only [IntWalk.u64_in]); first | (refine hK _ ?_; clear hK K) | (apply Exists.intro; refine ⟨fun x => ?_, hK _ ?_⟩; (first | (go_at_call 43; exact HW.out _ GG)); clear hK K)))); all_goals ((apply gLex_end); intro z1))
          rcases HI.out.how with ⟨h1, h2, h3⟩ | hat
          · subst h1 h2
            have hpos : 0 < rs.length := by omega
            have hone : rs.length ≤ 1 := by omega
            clear h3
            go_wp2_with (at_builtin; refine wp_appFull elemRoute rfl _ _ rfl B (Nat.le_trans HI.out.lt (show Grows y.now _ from GG).size) rs.length 1 bL oL _ rfl (by omega) (by omega) (HI.out.out.rd.grows (show Grows y.now _ from GG)) _ _ [.slice Ai (P i).length ci, .int .u64 (V i : Int)] rfl rfl (fun j u hu => by
                match j, hu with
                | 0, hu => simp at hu; subst hu; simp [go_sem]
                | 1, hu => simp at hu; subst hu; simp [go_sem]) (by omega) ?_; intro A9 c9 w8 hown8 hg9 hn8; have HT8 := hide (HI.out.full (i := i) (show Grows y.now _ from GG) (HOI.out.grows (show Grows y.now _ from GG)) hown8 hg9); have hg8 := (show Grows w0 _ from GG).trans hg9; obtain ⟨y8, rfl⟩ := hg8.later; clear hown8 hg9 hn8 hg8)
            go_roundw
            case measure => simp [Go.RowKit.intOf]; omega
            case rel => exact ⟨i + 1, A9, c9, rs ++ [(Ai, ci, (P i, V i))], by omega, by omega, by go_num, by rw [List.length_append, List.length_singleton], y8, rfl, by rw [HKY.out]; exact HT8.out⟩
          · have HAT := hide hat
            clear hat
            go_wp2_with (at_builtin; refine wp_appT elemRoute rfl _ _ rfl B (Nat.le_trans HI.out.lt (show Grows y.now _ from GG).size) rs.length c8 A8 _ rfl (HAT.out.own.grows (show Grows y.now _ from GG)) _ _ [.slice Ai (P i).length ci, .int .u64 (V i : Int)] rfl rfl (fun j u hu => by
                match j, hu with
                | 0, hu => simp at hu; subst hu; simp [go_sem]
                | 1, hu => simp at hu; subst hu; simp [go_sem]) (fun u hu => by simp at hu; rcases hu with rfl | rfl <;> rfl) (by omega) ?_; intro A9 c9 w8 hown8 ht8 hn8; have HT8 := hide (HI.out.app (i := i) HAT.out (show Grows y.now _ from GG) (HOI.out.grows (show Grows y.now _ from GG)) hown8 ht8); have hg8 := ht8.later (show Grows w0 _ from GG) (fun j hj => by obtain ⟨p, hp, e⟩ := hj; have := (HAT.out.own.ty p hp).1; omega); obtain ⟨y8, rfl⟩ := hg8.later; clear hown8 ht8 hn8 hg8)
            go_roundw
            case measure => simp [Go.RowKit.intOf]; omega
            case rel => exact ⟨i + 1, A9, c9, rs ++ [(Ai, ci, (P i, V i))], by omega, by omega, by go_num, by rw [List.length_append, List.length_singleton], y8, rfl, by rw [HKY.out]; exact HT8.out⟩
        · have HKY := hide (keepW_no (why := why) (K := K) (k := i) (fun e => e.2.elim (by omega) hwz))
          have hwb : (why i (keepW why K i) == 0) = false := by simpa using hwz
          generalize why i (keepW why K i) = wv_ at *
          clear hwz
          go_wp2_with fail
          ((first | refine wp_region_gen (by kernel_rfl) (by kernel_rfl) ?_); (repeat' ((first | refine gLex_val0 rfl (by kernel_rfl) (fun K hK => ?_) | refine gLex_undef rfl rfl rfl (by kernel_rfl) (fun K hK => ?_) | (refine gLex_ask rfl rfl rfl ?_; first | (apply gAsk_yes; kernel_rfl; intro K hK) | ((first | apply gAsk_no1 | apply gAsk_no2); kernel_rfl; intro K hK) | (apply gAsk_part; kernel_rfl; all_goals (intro h K hK; (try simp only [Bool.not_true] at h); (try simp only [Bool.not_false] at h); (try simp only [decide_eq_true_eq] at h); (try simp only [decide_eq_false_iff_not] at h); try (exfalso; first | contradiction | omega))))) <;> (go_simp; (try (simp only [↓IntWalk.iteOmega]; try go_simp)); (try simp (disch := omega) only [IntWalk.i64_in]); (try simp (disch := omega) only [IntWalk.u64_in]); first | (refine hK _ ?_; clear hK K) | (apply Exists.intro; refine ⟨fun x => ?_, hK _ ?_⟩; (first | (go_at_call 43; exact HW.out _ GG)); clear hK K)))); all_goals ((apply gLex_end); intro z1))
          go_wp2_with fail
          go_roundw
          case measure => simp [Go.RowKit.intOf]; omega
          case rel =>
            have hgz : Grows w0 z1.now := GG
            have hgy : Grows y.now z1.now := GG
            exact ⟨i + 1, A8, c8, rs, by omega, by omega, by go_num, rfl, ⟨z1.now, hgz⟩, rfl, by rw [HKY.out]; exact HI.out.grows hgy⟩
      · have hfb : (decide (rs.length < K)) = false := decide_eq_false hfull
        have HFU := hide (show keepW why K rsL.length = keepW why K i from by
          have := keepW_full (why := why) (K := K) (k := i) (by rw [← HRL.out]; omega) (rsL.length - i)
          rwa [show i + (rsL.length - i) = rsL.length by omega] at this)
        go_wp2_with fail
        refine bodyPost_ret (v := .tuple #[.slice A8 rs.length c8, .int .i64 0]) (by simp (maxDischargeDepth := 6) [results, Tryz.results36, go_sem]) rfl ?_
        exact E3.out (by trivial) _ _ ⟨A8, c8, rs, rfl, by rw [HFU.out]; exact HI.out.out, hg0.trans GG⟩
    · obtain rfl : i = rsL.length := by omega
      go_wp2_with fail
      refine bodyPost_ret (v := .tuple #[.slice A8 rs.length c8, .int .i64 0]) (by simp (maxDischargeDepth := 6) [results, Tryz.results36, go_sem]) rfl ?_
      exact E3.out (by trivial) _ _ ⟨A8, c8, rs, rfl, HI.out.out, hg0.trans GG⟩
end Go.Proofs.YtgplpgldhoelcaaGreat

namespace Go.Proofs.YtgplpgldhoelcaaGreat
open Go Go.RowKit
def whyK (N s t : Int) (E : List Edg) (o : PO) (P : Nat → List Nat) (v0 : Nat) (r : Int) (ts : List Int → Int → Bool) (k : Nat) (q : List Nat) : Int := whyX N s t E (icL (P k)) (q.map fun j => icL (P j)) o v0 r (ts (icL (P k)))
theorem poB_k {o : PO} (h : poB o = true) : 1 ≤ o.k ∧ o.k ≤ 1024 ∧ 0 ≤ o.r ∧ o.r ≤ 100 := by
  unfold poB inB at h
  simp only [Bool.and_eq_true, decide_eq_true_eq] at h
  omega
structure PenAll (N s t : Int) (A : Option Addr) (c : Nat) (E : List Edg) (o : PO) (w : World) (W P : Nat → List Nat) (V : Nat → Nat) (r : Int) (ts : List Int → Int → Bool) : Prop where
  tr : TrOk N s t E o.f1 o.f2 W P V
  path : IsPath E (freeO []) N s t (P 0) (V 0) r
  tries : ∀ X, Grows w X → Calls Tryz.prog 38 #[.agg #[.int .i64 N, .slice A E.length c], .int .i64 s, .int .i64 t, poV o] X (GiveTr X (poB o) r o.r P V)
  tries2 : ∀ X, Grows w X → Calls Tryz.prog 39 #[.agg #[.int .i64 N, .slice A E.length c], .int .i64 s, .int .i64 t, poV o] X (GiveTr X (poB o) r o.r P V)
  ways : ∀ X, Grows w X → Calls Tryz.prog 35 #[.agg #[.int .i64 N, .slice A E.length c], .int .i64 s, .int .i64 t, poV o] X (GiveWs X (poB o) r (o.r.toNat + 1) o.k.toNat (whyK N s t E o P (V 0) r ts) (fun j => (P j, V j)))
  ways2 : ∀ X, Grows w X → Calls Tryz.prog 36 #[.agg #[.int .i64 N, .slice A E.length c], .int .i64 s, .int .i64 t, poV o] X (GiveWr X (poB o) r (o.r.toNat + 1) o.k.toNat (whyK N s t E o P (V 0) r ts) (fun j => (P j, V j)))
theorem pen_all (N s t : Int) (A : Option Addr) (c : Nat) (E : List Edg) (o : PO) (w : World) (h : Rd w A 3 E.length (esCells E)) (hE : E.length ≤ 1000000) (hN : N ≤ 1000 ∨ 4096 < N)
    (u1 : U64 o.f1) (u2 : U64 o.a1) (u3 : U64 o.e1) (u4 : U64 o.g1) (u5 : U64 o.a2) : ∃ W P V r ts, PenAll N s t A c E o w W P V r ts := by
  obtain ⟨W, P, V, hT⟩ := tries_any N s t E o.f1 o.f2
  obtain ⟨r, hp⟩ := hT.p0
  have hf : V 0 < 18446744073709551616 := by
    have h1 := hp.short.2
    have h2 : farV < 18446744073709551616 := by decide
    omega
  obtain ⟨ts, hts⟩ := why_two N s t A c E o (P 0) (V 0) r w h hE hp hf u1 u2 u3 u4 u5
  have key : ∀ (X : World), Grows w X → ∀ (k : Nat) (q : List Nat), q.length ≤ 1000 → ∀ (Al : Option Addr) (cl : Nat) (A8 : Option Addr) (c8 : Nat) (rs : List Rt), Own X 0 3 1 Al (P k).length cl (nv (P k)) → RtsRd X A8 rs (q.map fun j => (P j, V j)) →
      (Calls Tryz.prog 42 #[.agg #[.int .i64 N, .slice A E.length c], .int .i64 s, .int .i64 t, .slice Al (P k).length cl, .slice A8 rs.length c8, poV o] X fun e w' => e = .returned (.int .i64 (whyK N s t E o P (V 0) r ts k q)) ∧ Grows X w') ∧
      (Calls Tryz.prog 43 #[.agg #[.int .i64 N, .slice A E.length c], .int .i64 s, .int .i64 t, .slice Al (P k).length cl, .slice A8 rs.length c8, poV o] X fun e w' => e = .returned (.int .i64 (whyK N s t E o P (V 0) r ts k q)) ∧ Grows X w') := by
    intro X g k q hq Al cl A8 c8 rs ho hr
    obtain ⟨h1, h2⟩ := hr.wayIn hT hN hE (by omega) ho
    have h3 := hts X g Al cl (icL (P k)) A8 c8 (rs.map rtH) h1
    rw [icL_len, List.length_map, whyX_of h2] at h3
    exact h3
  have hT1 : ∀ X, Grows w X → Calls Tryz.prog 38 #[.agg #[.int .i64 N, .slice A E.length c], .int .i64 s, .int .i64 t, poV o] X (GiveTr X (poB o) r o.r P V) := fun X g =>
    penTries N s t A c E o W P V r X (h.grows g) hE hT hp
  have hT2 : ∀ X, Grows w X → Calls Tryz.prog 39 #[.agg #[.int .i64 N, .slice A E.length c], .int .i64 s, .int .i64 t, poV o] X (GiveTr X (poB o) r o.r P V) := fun X g =>
    r32Tries N s t A c E o W P V r X (h.grows g) hE hT hp ⟨u1, u2, u3, u4⟩
  refine ⟨W, P, V, r, ts, hT, hp, hT1, hT2, fun X g => ?_, fun X g => ?_⟩
  · refine penWays N s t A E.length c o.k.toNat (o.r.toNat + 1) P V r o.r (poB o) (whyK N s t E o P (V 0) r ts) X rfl (fun hb => ?_) (fun hb => ?_) o (fun hb => ?_) (fun Y g2 => hT1 Y (g.trans g2)) (fun k q Y g2 hq Al cl A8 c8 B rs ho hr => (key Y (g.trans g2) k q hq Al cl A8 c8 rs ho hr.toRd).1)
    all_goals (have := poB_k hb; omega)
  · refine r32Ways N s t A E.length c o.k.toNat (o.r.toNat + 1) P V r o.r (poB o) (whyK N s t E o P (V 0) r ts) X rfl (fun hb => ?_) (fun hb => ?_) o (fun hb => ?_) (fun Y g2 => hT2 Y (g.trans g2)) (fun k q Y g2 hq Al cl A8 c8 rs ho hr => (key Y (g.trans g2) k q hq Al cl A8 c8 rs ho hr).2)
    all_goals (have := poB_k hb; omega)
end Go.Proofs.YtgplpgldhoelcaaGreat

namespace Go.Proofs.YtgplpgldhoelcaaGreat
open Go Go.RowKit
attribute [local go_sem] Oper.semAt_some
def lightP (N : Int) (n : Nat) (R : Int) : Bool := decide ((N ≤ 12 ∨ 4096 < N) ∧ n ≤ 40 ∧ (R ≤ 12 ∨ 100 < R))
theorem lightP_of {N : Int} {n : Nat} {R : Int} (h : lightP N n R = true) : (N ≤ 12 ∨ 4096 < N) ∧ n ≤ 40 ∧ (R ≤ 12 ∨ 100 < R) := of_decide_eq_true h
set_option maxHeartbeats 1000000 in
theorem lLight32 (N : Int) (A : Option Addr) (n c : Nat) (o : PO) (w : World) : Calls Tryz.prog 33 #[.agg #[.int .i64 N, .slice A n c], poV o] w fun e w' => e = .returned (.bool (lightP N n o.r)) ∧ Grows w w' := by
  have C1 := hide (fun (X : World) => lLight N A n c X)
  obtain ⟨ok_, or_, f1, f2, a1, a2, e1, e2, g1, g2⟩ := o
  unfold poV
  dsimp only
  cases hl : lightG N n with
  | false =>
    rw [hl] at C1
    have HW := hide (show lightP N n or_ = false from decide_eq_false fun h => by
      unfold lightG at hl
      have := of_decide_eq_false hl
      omega)
    clear hl
    go_enter Tryz.func33, Tryz.ntmps33
    go_wp2_with (first | (go_at_call 73; refine (C1.out _).mono ?_; rintro e w' ⟨rfl, hg⟩; (first | obtain ⟨x, rfl⟩ := Grows.later2 hg | obtain ⟨x, rfl⟩ := Grows.later hg); clear hg))
    go_ret
    exact ⟨ret_bool HW.out.symm, GG⟩
  | true =>
    rw [hl] at C1
    clear hl
    go_enter Tryz.func33, Tryz.ntmps33
    go_wp2_with (first | (go_at_call 73; refine (C1.out _).mono ?_; rintro e w' ⟨rfl, hg⟩; (first | obtain ⟨x, rfl⟩ := Grows.later2 hg | obtain ⟨x, rfl⟩ := Grows.later hg); clear hg))
    all_goals go_ret
    all_goals exact ⟨ret_bool (bool_ext (by unfold lightP; simp; try omega)), GG⟩
set_option maxRecDepth 20000 in
set_option maxHeartbeats 2000000 in
theorem law32Of (o : PO) (w : World) : Calls Tryz.prog 37 #[poV o] w fun e w' => e = .returned (poV o) ∧ Grows w w' := by
  obtain ⟨ok_, or_, f1, f2, a1, a2, e1, e2, g1, g2⟩ := o
  unfold poV
  dsimp only
  go_enter Tryz.func37, Tryz.ntmps37
  go_upto_region 1 with fail
  obtain ⟨w0, hw0⟩ : ∃ W, W = (w.alloc (.cells #[.int .i64 ok_, .int .i64 or_, .int .u64 f1, .int .u64 f2, .int .u64 a1, .int .u64 a2, .int .u64 e1, .int .u64 e2, .int .u64 g1, .int .u64 g2] 73)).alloc (.cells #[.int .i64 0, .int .i64 0, .int .u64 0, .int .u64 0, .int .u64 0, .int .u64 0, .int .u64 0, .int .u64 0, .int .u64 0, .int .u64 0] 77) := ⟨_, rfl⟩
  have hg0 : Grows w w0 := by rw [hw0]; exact ((Grows.refl _).new _).new _
  have a4 : Arr w0 w.heap.size 73 [.int .i64 ok_, .int .i64 or_, .int .u64 f1, .int .u64 f2, .int .u64 a1, .int .u64 a2, .int .u64 e1, .int .u64 e2, .int .u64 g1, .int .u64 g2] := by rw [hw0]; exact (Arr.make w _ _).grow ((Grows.refl _).new _)
  have a7 : Arr w0 (w.heap.size + 1) 77 [.int .i64 0, .int .i64 0, .int .u64 0, .int .u64 0, .int .u64 0, .int .u64 0, .int .u64 0, .int .u64 0, .int .u64 0, .int .u64 0] := by
    rw [hw0]
    have h := Arr.make (w.alloc (.cells #[.int .i64 ok_, .int .i64 or_, .int .u64 f1, .int .u64 f2, .int .u64 a1, .int .u64 a2, .int .u64 e1, .int .u64 e2, .int .u64 g1, .int .u64 g2] 73)) [.int .i64 0, .int .i64 0, .int .u64 0, .int .u64 0, .int .u64 0, .int .u64 0, .int .u64 0, .int .u64 0, .int .u64 0, .int .u64 0] 77
    have e : (w.alloc (.cells #[.int .i64 ok_, .int .i64 or_, .int .u64 f1, .int .u64 f2, .int .u64 a1, .int .u64 a2, .int .u64 e1, .int .u64 e2, .int .u64 g1, .int .u64 g2] 73)).heap.size = w.heap.size + 1 := by simp
    rwa [e] at h
  rw [← hw0]
  clear hw0
  have hsz : w.heap.size ≤ w.heap.size + 1 := by omega
  obtain ⟨b7, hb7⟩ : ∃ b, b = w.heap.size + 1 := ⟨_, rfl⟩
  rw [← hb7] at a7 hsz ⊢
  clear hb7
  obtain ⟨b4, hb4⟩ : ∃ b, b = w.heap.size := ⟨_, rfl⟩
  rw [← hb4] at a4 ⊢
  clear hb4
  have m6 := a4.mine 6 rfl
  have m7 := a4.mine 7 rfl
  have m8 := a4.mine 8 rfl
  have m9 := a4.mine 9 rfl
  have p0 := a7.mine 0 rfl
  have p1 := a7.mine 1 rfl
  have p2 := a7.mine 2 rfl
  have p3 := a7.mine 3 rfl
  have p4 := a7.mine 4 rfl
  have p5 := a7.mine 5 rfl
  have p6 := a7.mine 6 rfl
  have p7 := a7.mine 7 rfl
  have p8 := a7.mine 8 rfl
  have p9 := a7.mine 9 rfl
  go_wp2_with fail
  have b' : Arr ((((((((((w0.setCell ⟨b7, 0, none⟩ (.int .i64 ok_)).setCell ⟨b7, 1, none⟩ (.int .i64 or_)).setCell ⟨b7, 2, none⟩ (.int .u64 f1)).setCell ⟨b7, 3, none⟩ (.int .u64 f2)).setCell ⟨b7, 4, none⟩ (.int .u64 a1)).setCell ⟨b7, 5, none⟩ (.int .u64 a2)).setCell ⟨b7, 6, none⟩ (.int .u64 e1)).setCell ⟨b7, 7, none⟩ (.int .u64 e2)).setCell ⟨b7, 8, none⟩ (.int .u64 g1)).setCell ⟨b7, 9, none⟩ (.int .u64 g2)) b7 77 [.int .i64 ok_, .int .i64 or_, .int .u64 f1, .int .u64 f2, .int .u64 a1, .int .u64 a2, .int .u64 e1, .int .u64 e2, .int .u64 g1, .int .u64 g2] := ((((((((((a7.set 0 (.int .i64 ok_)).set 1 (.int .i64 or_)).set 2 (.int .u64 f1)).set 3 (.int .u64 f2)).set 4 (.int .u64 a1)).set 5 (.int .u64 a2)).set 6 (.int .u64 e1)).set 7 (.int .u64 e2)).set 8 (.int .u64 g1)).set 9 (.int .u64 g2))
  have g' : Grows w ((((((((((w0.setCell ⟨b7, 0, none⟩ (.int .i64 ok_)).setCell ⟨b7, 1, none⟩ (.int .i64 or_)).setCell ⟨b7, 2, none⟩ (.int .u64 f1)).setCell ⟨b7, 3, none⟩ (.int .u64 f2)).setCell ⟨b7, 4, none⟩ (.int .u64 a1)).setCell ⟨b7, 5, none⟩ (.int .u64 a2)).setCell ⟨b7, 6, none⟩ (.int .u64 e1)).setCell ⟨b7, 7, none⟩ (.int .u64 e2)).setCell ⟨b7, 8, none⟩ (.int .u64 g1)).setCell ⟨b7, 9, none⟩ (.int .u64 g2)) := ((((((((((hg0.set (p := ⟨b7, 0, none⟩) hsz (.int .i64 ok_)).set (p := ⟨b7, 1, none⟩) hsz (.int .i64 or_)).set (p := ⟨b7, 2, none⟩) hsz (.int .u64 f1)).set (p := ⟨b7, 3, none⟩) hsz (.int .u64 f2)).set (p := ⟨b7, 4, none⟩) hsz (.int .u64 a1)).set (p := ⟨b7, 5, none⟩) hsz (.int .u64 a2)).set (p := ⟨b7, 6, none⟩) hsz (.int .u64 e1)).set (p := ⟨b7, 7, none⟩) hsz (.int .u64 e2)).set (p := ⟨b7, 8, none⟩) hsz (.int .u64 g1)).set (p := ⟨b7, 9, none⟩) hsz (.int .u64 g2))
  obtain ⟨W, hW⟩ : ∃ W, W = ((((((((((w0.setCell ⟨b7, 0, none⟩ (.int .i64 ok_)).setCell ⟨b7, 1, none⟩ (.int .i64 or_)).setCell ⟨b7, 2, none⟩ (.int .u64 f1)).setCell ⟨b7, 3, none⟩ (.int .u64 f2)).setCell ⟨b7, 4, none⟩ (.int .u64 a1)).setCell ⟨b7, 5, none⟩ (.int .u64 a2)).setCell ⟨b7, 6, none⟩ (.int .u64 e1)).setCell ⟨b7, 7, none⟩ (.int .u64 e2)).setCell ⟨b7, 8, none⟩ (.int .u64 g1)).setCell ⟨b7, 9, none⟩ (.int .u64 g2)) := ⟨_, rfl⟩
  rw [← hW] at b' g' ⊢
  clear hW p0 p1 p2 p3 p4 p5 p6 p7 p8 p9
  have q0 := b'.mine 0 rfl
  have q1 := b'.mine 1 rfl
  have q2 := b'.mine 2 rfl
  have q3 := b'.mine 3 rfl
  have q4 := b'.mine 4 rfl
  have q5 := b'.mine 5 rfl
  have q6 := b'.mine 6 rfl
  have q7 := b'.mine 7 rfl
  have q8 := b'.mine 8 rfl
  have q9 := b'.mine 9 rfl
  refine bodyPost_ret (v := .agg #[.int .i64 ok_, .int .i64 or_, .int .u64 f1, .int .u64 f2, .int .u64 a1, .int .u64 a2, .int .u64 e1, .int .u64 e2, .int .u64 g1, .int .u64 g2]) (by simp (maxDischargeDepth := 6) [results, Tryz.results37, go_sem, *]) rfl ?_
  exact ⟨rfl, g'⟩
def exPen : List Edg := [⟨0, 1, 3⟩]
theorem exPen_is {l : List Nat} {f : Nat} {r : Int} (h : IsPath exPen (freeO []) 2 0 1 l f r) : r = 0 ∧ f = 3 := by
  have hr : rightF ((2 : Nat) : Int) exPen = 0 := by decide +kernel
  have hw : Lft exPen 1 0 [] [] [0] := ⟨⟨by decide, by decide, by show tN exPen 0 = 1; decide⟩, fun i _ => by simp, fun u _ => by simp⟩
  have h3 : wE exPen [0] = 3 := by decide
  have hfar : (3 : Nat) < farV := by decide
  rcases can_is (N := 2) (v := 0) (t := 1) hr (by omega) (by omega) h with ⟨h1, h2, h4, h5, h6, h7⟩ | ⟨h1, h2, h4, h5⟩
  · refine ⟨h1, ?_⟩
    have h8 := SP.short (N := 2) hr (by omega) (show SP exPen 0 1 l from ⟨h2.way, h4⟩)
    have hww := h2.way
    rw [h5]
    match l, h8, hww with
    | [], _, hww => exact absurd (show (0 : Nat) = 1 from hww) (by decide)
    | _ :: _ :: _, h8, _ => exact absurd h8 (by simp)
    | [i], _, hww =>
      have hi : i < 1 := hww.1
      have : i = 0 := by omega
      subst this
      exact h3
  · exact (h5 [0] hw (by rw [h3]; exact hfar)).elim
def exPO : PO := ⟨2, 0, 1, 1, 1, 1, 1, 1, 1, 1⟩
set_option maxRecDepth 40000 in
set_option maxHeartbeats 4000000 in
theorem alive32 (w : World) : Calls Tryz.prog 34 #[] w fun e w' => e = .returned (.bool true) ∧ Grows w w' := by
  have CN := hide (fun (W : World) (A : Option Addr) (h : Rd W A 3 1 (esCells exPen)) => show Calls Tryz.prog 35 #[.agg #[.int .i64 2, .slice A 1 1], .int .i64 0, .int .i64 1, .agg #[.int .i64 2, .int .i64 0, .int .u64 1, .int .u64 1, .int .u64 1, .int .u64 1, .int .u64 1, .int .u64 1, .int .u64 1, .int .u64 1]] W fun e w' =>
      ∃ A' c' rs p, e = .returned (.tuple #[.slice A' 1 c', .int .i64 0]) ∧ RtsAt w' W.heap.size A' c' rs [(p, 3)] ∧ Grows W w' from by
    obtain ⟨WW, P, V, r, ts, hA⟩ := pen_all 2 0 1 A 1 exPen exPO W h (by decide) (by omega) ⟨by decide, by decide⟩ ⟨by decide, by decide⟩ ⟨by decide, by decide⟩ ⟨by decide, by decide⟩ ⟨by decide, by decide⟩
    obtain ⟨h1, h2⟩ := exPen_is hA.path
    refine (hA.ways W (Grows.refl W)).mono ?_
    intro e w' hh
    unfold GiveWs at hh
    rw [show poB exPO = true by decide +kernel, if_neg (by decide), if_neg (by omega)] at hh
    obtain ⟨A', c', rs, rfl, h3, hg⟩ := hh
    rw [show keepW (whyK 2 0 1 exPen exPO P (V 0) r ts) (exPO.k.toNat) (exPO.r.toNat + 1) = [0] from keepW_yes (k := 0) (by show 0 < exPO.k.toNat; decide) (.inl rfl)] at h3
    have hl := h3.len
    simp at hl
    exact ⟨A', c', rs, P 0, by rw [hl], by rw [← h2]; exact h3, hg⟩)
  go_enter Tryz.func34, Tryz.ntmps34
  go_upto_region 2 with fail
  have b0 : Arr (w.alloc (.cells #[.int .u64 1, .int .u64 1] 71)) w.heap.size 71 [.int .u64 1, .int .u64 1] := Arr.make w _ _
  have g0 : Grows w (w.alloc (.cells #[.int .u64 1, .int .u64 1] 71)) := (Grows.refl w).new _
  obtain ⟨w1, hw1⟩ : ∃ W, W = w.alloc (.cells #[.int .u64 1, .int .u64 1] 71) := ⟨_, rfl⟩
  rw [← hw1] at b0 g0 ⊢
  clear hw1
  obtain ⟨bb, hbb⟩ : ∃ b, b = w.heap.size := ⟨_, rfl⟩
  rw [← hbb] at b0 ⊢
  clear hbb
  go_wp2_with fail
  refine (CN.out _ _ (Rd.made (w := w1) (t := 84) (size := 3) (n := 1) (esCells exPen) rfl)).mono ?_
  rintro e w2 ⟨A', c', rs, p, rfl, hd, hg⟩
  have hgw := ((Grows.refl w1).new _).trans hg
  obtain ⟨x, rfl⟩ := hgw.later
  have hl := hd.len
  simp at hl
  obtain ⟨r0, hr0⟩ : ∃ r, rs[0]? = some r := ⟨rs[0]'(by omega), by simp⟩
  obtain ⟨g, rfl, _, k0, _⟩ := hd.at hr0
  have hp0 : r0.2.2.2 = 3 := by
    have : (rs.map (fun r => (r.2.2.1, r.2.2.2)))[0]? = some (p, 3) := by rw [hd.eqs]; rfl
    rw [List.getElem?_map, hr0] at this
    simpa using congrArg (Option.map Prod.snd) this
  rw [hp0] at k0
  simp at k0
  clear hd hl hr0 hp0 hg CN
  go_wp2_with fail
  go_ret
  exact ⟨rfl, (g0.trans hgw).trans GG⟩
end Go.Proofs.YtgplpgldhoelcaaGreat

namespace Go.Proofs.YtgplpgldhoelcaaGreat
open Go Go.RowKit
section
variable {P : Program} {w0 : World} {ops : Array Oper} {Q : Act → Env → Prop} {a : Act} {G : Env} {o : Oper} {rest : List Oper}
theorem gLex_propG {t : Tmp} (hw : Region.wanted o (yielded ops a.tmps) = true) (hp : plainB ops o G = true) (hd : o.dst = some t) (hlt : t < a.tmps.size)
    (p : Pr) (hl : Lasts p) (hr : ∀ x : Later w0, runsTo P (fun u w' => Grows x.now w' ∧ p u w') ((execOp a.eval o).run P x.now))
    (h : gLex P ops w0 Q rest a (G.upd t p)) : gLex P ops w0 Q (o :: rest) a G := by
  obtain ⟨h1, h2, h3, h4⟩ := plain_spec hp
  refine ⟨.inr p, ⟨h1, h2, .inl ⟨hw, hl, ⟨t, hd, hlt⟩, fun w hw a' ha' => ?_⟩⟩, ?_⟩
  · rw [exec_same h4 h3 ha']
    exact hr ⟨w, hw⟩
  · rw [hd]
    exact h
def AtB (Q : Exit → Act → World → Prop) (a : Act) (G : Env) (w' : World) : Prop := ∀ a', Conc G a a' w' → Q .normal a' w'
theorem AtB.pop {Q : Exit → Act → World → Prop} {w' : World} {t : Tmp} {p : Pr} (hG : G t = none) (ht : t < a.tmps.size) (h : ∀ v, p v w' → AtB Q (a.put (some t) v) G w') : AtB Q a (G.upd t p) w' := fun a' hc => by
  obtain ⟨v, hv⟩ := conc_upd hc ht
  rcases hv with ⟨hp, hc2⟩ | hne
  · exact h v hp a' hc2
  · exact absurd hG hne
theorem AtB.base {Q : Exit → Act → World → Prop} {w' : World} (h : Q .normal a w') : AtB Q a Env.no w' := fun a' hc => by rw [conc_no hc]; exact h
theorem gLex_endB {Q : Exit → Act → World → Prop} (h : ∀ x : Later w0, AtB Q a G x.now) : gLex P ops w0 (fun a G => ∀ w', Grows w0 w' → ∀ a', Conc G a a' w' → Q .normal a' w') [] a G := fun w' hw a' hc => h ⟨w', hw⟩ a' hc
end
def BRow (n : Nat) (L : List Bool) : Pr := fun u w => ∃ g, u = .slice (some ⟨g, 0, none⟩) n n ∧ Arr w g 4 (L.map .bool)
theorem BRow.lasts (n : Nat) (L : List Bool) : Lasts (BRow n L) := fun _ _ _ hg ⟨g, e, h⟩ => ⟨g, e, h.grow hg⟩
end Go.Proofs.YtgplpgldhoelcaaGreat

