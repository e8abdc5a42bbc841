/- The law YenWays: for every input it returns true, and each argument reads as before. No condition. -/
import Derived.Test.YtgplpgldhoelcaaGreatQYenWays10
import Derived.Test.YtgplpgldhoelcaaGreatQYenWays11
import Derived.Test.YtgplpgldhoelcaaGreatQYenWays12
import Derived.Test.YtgplpgldhoelcaaGreatQYenWays15
import Derived.Test.YtgplpgldhoelcaaGreatQYenWays20
import Derived.Test.YtgplpgldhoelcaaGreatQYenWays23
namespace Go.Proofs.YtgplpgldhoelcaaGreat
open Go Go.RowKit
attribute [local go_sem] Oper.semAt_some
theorem RtsAt.cut {w : World} {B : Nat} {A : Option Addr} {c : Nat} {rs : List Rt} {ps : List (List Nat × Nat)} (h : RtsAt w B A c rs ps) {k : Nat} (hk : k ≤ rs.length) : RtsAt w B A c (rs.take k) (ps.take k) := by
  refine ⟨?_, fun r hr => h.rows r (List.mem_of_mem_take hr), by rw [List.map_take, h.eqs]⟩
  rcases Nat.eq_zero_or_pos rs.length with h0 | h0
  · have : rs = [] := List.eq_nil_of_length_eq_zero h0
    subst this
    simpa using h.own
  · have h1 := h.own.cut hk h0
    have e : (rs.take k).flatMap rtC = (rs.flatMap rtC).take (k * 2) := by
      have e1 : rs.flatMap rtC = (rs.take k).flatMap rtC ++ (rs.drop k).flatMap rtC := by rw [← List.flatMap_append, List.take_append_drop]
      rw [e1, List.take_left' (by rw [rt_flat_len, List.length_take, Nat.min_eq_left hk])]
    rw [e, List.length_take, Nat.min_eq_left hk]
    exact h1
theorem RtsAt.form {w : World} {B : Nat} {A : Option Addr} {c : Nat} {rs : List Rt} {ps : List (List Nat × Nat)} (h : RtsAt w B A c rs ps) : (A = none ∧ rs.length = 0 ∧ c = 0) ∨ ∃ g, A = some ⟨g, 0, none⟩ := by
  rcases h.own.2 with ⟨e8, h0⟩ | ⟨g8, _, _, e8, _⟩
  · injection e8 with e1 e2 e3
    exact .inl ⟨e1, by omega, e3⟩
  · injection e8 with e1
    exact .inr ⟨g8, e1⟩
set_option maxRecDepth 20000 in
set_option maxHeartbeats 4000000 in
theorem r30Rows (N : Nat) (A : Option Addr) (c : Nat) (E : List Edg) (s t : Nat) (w : World) (h : Rd w A 3 E.length (esCells E)) (hr : rightF (N : Int) E = 0) (hN : N ≤ 60) (hs : s < N) (ht : t < N) (hE : E.length ≤ 22) (most : Nat) (hmost : 100000 < most) :
    Calls Tryz.prog 28 #[.agg #[.int .i64 (N : Int), .slice A E.length c], .int .i64 (s : Int), .int .i64 (t : Int), .int .i64 (most : Int)] w fun e w' => ∃ A' c' rs', e = .returned (.slice A' rs'.length c') ∧ RtsAt w' w.heap.size A' c' rs' (rtW E (rowsL E N s t)) ∧ Grows w w' := by
  have C1 := hide (fun (X : World) (g : Grows w X) => r30Check N A E.length c E s t X (h.grows g) (by omega))
  rw [show yeF (N : Int) E (s : Int) (t : Int) = 0 by rw [yeF_at hr, if_neg (by omega)]] at C1
  have hfew := rows_few (N := N) (s := s) (t := t) hE
  unfold rowsL at hfew ⊢
  have C2 := hide (fun (X : World) (g : Grows w X) (An : Option Addr) (cn : Nat) (hn : Own X 0 3 1 An 1 cn [.int .i64 (s : Int)]) => show Calls Tryz.prog 82 #[.agg #[.int .i64 (N : Int), .slice A E.length c], .int .i64 (t : Int), .slice An 1 cn, .slice none 0 0, .int .u64 0, .slice none 0 0, .int .i64 (most : Int)] X (GiveGr w X E none (ext E t N s [s])) from by
    have := r30grow N A c E t w h hr hN most hmost N s [] [] [] An none none cn 0 0 [] X (by simp) (by simp) (fun u hu => by simp at hu; omega) (by simp) (fun i hi => by cases hi) (by simp only [List.length_nil, List.nil_append]; omega) (fun _ => rfl) g hn (Own.nil _ _ _ _) (RtsAt.nil _ _)
    simpa [wE] using this)
  unfold GiveGr at C2
  generalize E.length = n at *
  clear h hr hfew
  go_enter Tryz.func28, Tryz.ntmps28
  go_wp2_with (first
    | (go_at_call 26; refine (C1.out _ GG).mono ?_; rintro e w' ⟨rfl, hg⟩; obtain ⟨x1, rfl⟩ := hg.later; clear hg)
    | (go_at_call 82; refine (C2.out _ GG _ _ (Own.build _ _ [.int .i64 (s : Int)] 0 (Nat.zero_le _) (by simp))).mono ?_; rintro e w' ⟨A', c', rs', rfl, h1, h2, _⟩; have hg := h2.later (show Grows w _ from GG) (fun k hk => by obtain ⟨p, hp, _⟩ := hk; cases hp); obtain ⟨x2, rfl⟩ := hg.later; have H1 := hide h1; clear h1 h2 hg))
  go_ret
  exact ⟨A', c', rs', rfl, H1.out, x2.grows⟩
set_option maxRecDepth 20000 in
set_option maxHeartbeats 8000000 in
theorem r31Ways (N : Nat) (A : Option Addr) (c : Nat) (E : List Edg) (s t k : Nat) (w : World) (h : Rd w A 3 E.length (esCells E)) (hr : rightF (N : Int) E = 0) (hN : N ≤ 60) (hs : s < N) (ht : t < N) (hE : E.length ≤ 22) (hk1 : 1 ≤ k) (hk2 : k ≤ 1024) :
    Calls Tryz.prog 20 #[.agg #[.int .i64 (N : Int), .slice A E.length c], .int .i64 (s : Int), .int .i64 (t : Int), .int .i64 (k : Int)] w fun e w' => ∃ A' c' rs', e = .returned (.tuple #[.slice A' rs'.length c', .int .i64 0]) ∧ RtsAt w' 0 A' c' rs' (rtW E ((srtL E (rowsL E N s t)).take k)) ∧ Grows w w' := by
  have C1 := hide (fun (X : World) (g : Grows w X) => r30Check N A E.length c E s t X (h.grows g) (by omega))
  rw [show yeF (N : Int) E (s : Int) (t : Int) = 0 by rw [yeF_at hr, if_neg (by omega)]] at C1
  have hfew := rows_few (N := N) (s := s) (t := t) hE
  have hin := (right_in hr).2.2.2.1
  rw [Int.toNat_natCast] at hin
  have hlen : (srtL E (rowsL E N s t)).length = (rowsL E N s t).length := by
    have := srtL_len E (rowsL E N s t) _ (Nat.le_refl _)
    rwa [List.take_length] at this
  have hsh : ∀ p ∈ rowsL E N s t, p.length ≤ 1000000 := fun p hp => by
    have := ((rows_mem hin hs p).1 hp).short hr hs
    omega
  have C2 := hide (fun (X : World) (g : Grows w X) => show Calls Tryz.prog 28 #[.agg #[.int .i64 (N : Int), .slice A E.length c], .int .i64 (s : Int), .int .i64 (t : Int), .int .i64 1048576] X fun e w' => ∃ A' c' rs', e = .returned (.slice A' rs'.length c') ∧ RtsAt w' X.heap.size A' c' rs' (rtW E (rowsL E N s t)) ∧ Grows X w' from r30Rows N A c E s t X (h.grows g) hr hN hs ht hE 1048576 (by omega))
  have C3 := hide (fun (X : World) (A1 : Option Addr) (c1 : Nat) (rs1 : List Rt) (h1 : RtsAt X 0 A1 c1 rs1 (rtW E (rowsL E N s t))) => r30Sorted A1 c1 rs1 E (rowsL E N s t) X h1 (by omega) hsh)
  obtain ⟨n3, hn3⟩ : ∃ n3, n3 = (rowsL E N s t).length := ⟨_, rfl⟩
  have hn3s : n3 ≤ 3200 := by omega
  have H3 := hide (show (rtW E (srtL E (rowsL E N s t))).length = n3 by rw [hn3, ← hlen]; simp [rtW])
  have HK := hide (show rtW E ((srtL E (rowsL E N s t)).take k) = (rtW E (srtL E (rowsL E N s t))).take (min k n3) by
    rw [show rtW E ((srtL E (rowsL E N s t)).take k) = (rtW E (srtL E (rowsL E N s t))).take k by simp [rtW, List.map_take]]
    rcases Nat.lt_or_ge k n3 with h1 | h1
    · rw [Nat.min_eq_left (by omega)]
    · rw [Nat.min_eq_right h1, List.take_of_length_le (by rw [H3.out]; exact h1), List.take_of_length_le (by rw [H3.out]; exact Nat.le_refl _)])
  rw [HK.out]
  generalize rtW E (srtL E (rowsL E N s t)) = ps at *
  generalize E.length = n at *
  clear h hr hfew hin hlen hsh HK hn3
  go_enter Tryz.func20, Tryz.ntmps20
  go_upto_region 7 with (first
    | (go_at_call 26; refine (C1.out _ GG).mono ?_; rintro e w' ⟨rfl, hg⟩; obtain ⟨x1, rfl⟩ := hg.later; clear hg)
    | (go_at_call 28; refine (C2.out _ GG).mono ?_; rintro e w' ⟨A1, c1, rs1, rfl, ho1, hg⟩; obtain ⟨x2, rfl⟩ := hg.later; have HO1 := hide ho1; clear hg ho1)
    | (go_at_call 27; refine (C3.out _ A1 c1 rs1 ⟨HO1.out.own.base (Nat.zero_le _), HO1.out.rows, HO1.out.eqs⟩).mono ?_; rintro e w' ⟨A2, c2, rs2, rfl, ho2, hg⟩; obtain ⟨x3, rfl⟩ := hg.later; have HO2 := hide ho2; clear hg ho2))
  have hl2 : rs2.length = n3 := by rw [HO2.out.len]; exact H3.out
  have hc2 := HO2.out.own.capN
  have hform := HO2.out.form
  have HL2 := hide hl2
  rw [hl2] at hc2 hform ⊢
  clear hl2
  obtain ⟨m, hm⟩ : ∃ m, m = min k n3 := ⟨_, rfl⟩
  have HCUT := hide (fun (W : World) (hg : Grows x3.now W) => show RtsAt W 0 A2 c2 (rs2.take m) (ps.take m) from by
    have h5 := (HO2.out.grows hg).cut (k := m) (by rw [HL2.out]; omega)
    exact ⟨h5.own.base (Nat.zero_le _), h5.rows, h5.eqs⟩)
  rcases hform with ⟨rfl, h30, rfl⟩ | ⟨g8, rfl⟩
  · subst h30
    go_wp2_with fail
    have hlm : (min (k : Int) 0).toNat = (rs2.take m).length := by rw [List.length_take, HL2.out]; omega
    rw [hlm]
    exact bodyPost_ret (v := .tuple #[.slice none (rs2.take m).length 0, .int .i64 0]) (by simp (maxDischargeDepth := 6) [results, Tryz.results20, go_sem]) rfl ⟨_, _, rs2.take m, rfl, by rw [← hm]; exact HCUT.out _ (Grows.refl _), GG⟩
  · go_wp2_with fail
    have hlm : (min (k : Int) (n3 : Int)).toNat = (rs2.take m).length := by rw [List.length_take, HL2.out]; omega
    rw [hlm]
    exact bodyPost_ret (v := .tuple #[.slice (some ⟨g8, 0, none⟩) (rs2.take m).length c2, .int .i64 0]) (by simp (maxDischargeDepth := 6) [results, Tryz.results20, go_sem]) rfl ⟨_, _, rs2.take m, rfl, by rw [← hm]; exact HCUT.out _ (Grows.refl _), GG⟩
end Go.Proofs.YtgplpgldhoelcaaGreat

namespace Go.Proofs.YtgplpgldhoelcaaGreat
open Go Go.RowKit
def lightY (N : Int) (n : Nat) : Bool := decide ((N ≤ 7 ∨ 4096 < N) ∧ n ≤ 22)
theorem lightY_of {N : Int} {n : Nat} (h : lightY N n = true) : (N ≤ 7 ∨ 4096 < N) ∧ n ≤ 22 := of_decide_eq_true h
set_option maxHeartbeats 400000 in
theorem lLight30 (N : Int) (A : Option Addr) (n c : Nat) (w : World) : Calls Tryz.prog 17 #[.agg #[.int .i64 N, .slice A n c]] w fun e w' => e = .returned (.bool (lightY N n)) ∧ Grows w w' := by
  have C1 := hide (fun (X : World) => lLight N A n c X)
  cases hl : lightG N n with
  | false =>
    rw [hl] at C1
    have HW := hide (show lightY N n = false from decide_eq_false fun h => by
      unfold lightG at hl
      have := of_decide_eq_false hl
      omega)
    clear hl
    go_enter Tryz.func17, Tryz.ntmps17
    go_wp2_with (first | (go_at_call 73; refine (C1.out _).mono ?_; rintro e w' ⟨rfl, hg⟩; (first | obtain ⟨x, rfl⟩ := Grows.later2 hg | obtain ⟨x, rfl⟩ := Grows.later hg); clear hg))
    go_ret
    exact ⟨ret_bool HW.out.symm, GG⟩
  | true =>
    rw [hl] at C1
    clear hl
    go_enter Tryz.func17, Tryz.ntmps17
    go_wp2_with (first | (go_at_call 73; refine (C1.out _).mono ?_; rintro e w' ⟨rfl, hg⟩; (first | obtain ⟨x, rfl⟩ := Grows.later2 hg | obtain ⟨x, rfl⟩ := Grows.later hg); clear hg))
    all_goals go_ret
    all_goals exact ⟨ret_bool (bool_ext (by unfold lightY; simp; try omega)), GG⟩
end Go.Proofs.YtgplpgldhoelcaaGreat

namespace Go.Proofs.YtgplpgldhoelcaaGreat
open Go Go.RowKit
attribute [local go_sem] Oper.semAt_some
def exYen : List Edg := [⟨0, 1, 2⟩, ⟨0, 1, 1⟩]
theorem exYen_all : AllR exYen 0 1 [[1], [0]] := by
  have hr : rightF ((2 : Nat) : Int) exYen = 0 := by decide +kernel
  have h := srt_is (E := exYen) (N := 2) (s := 0) (t := 1) (right_in hr).2.2.2.1 (by omega)
  rw [show srtL exYen (rowsL exYen 2 0 1) = [[1], [0]] by decide +kernel] at h
  exact h
set_option maxRecDepth 40000 in
set_option maxHeartbeats 4000000 in
theorem alive31 (w : World) : Calls Tryz.prog 18 #[] w fun e w' => e = .returned (.bool true) ∧ Grows w w' := by
  have CN := hide (fun (W : World) (A : Option Addr) (h : Rd W A 3 2 (esCells exYen)) => show Calls Tryz.prog 19 #[.agg #[.int .i64 2, .slice A 2 2], .int .i64 0, .int .i64 1, .int .i64 9] W fun e w' =>
      ∃ A' c' rs, e = .returned (.tuple #[.slice A' 2 c', .int .i64 0]) ∧ RtsAt w' W.heap.size A' c' rs [([1], 1), ([0], 2)] ∧ Grows W w' from by
    refine (yeWays 2 A 2 2 exYen 0 1 9 [[1], [0]] W h (by omega) (by decide +kernel) (by omega) (by omega) (by omega) exYen_all (by decide) (by omega) (by omega)).mono ?_
    rintro e w' ⟨A', c', rs, rfl, h2, hg⟩
    rw [show rtW exYen (List.take 9 [[1], [0]]) = [([1], 1), ([0], 2)] by decide +kernel] at h2
    have hl := h2.len
    simp at hl
    exact ⟨A', c', rs, by rw [hl], h2, hg⟩)
  go_enter Tryz.func18, Tryz.ntmps18
  go_wp2_with fail
  refine (CN.out _ _ (Rd.made (w := w) (t := 84) (size := 3) (n := 2) (esCells exYen) rfl)).mono ?_
  rintro e w1 ⟨A', c', rs, rfl, hd, hg⟩
  have hgw := ((Grows.refl w).new _).trans hg
  obtain ⟨x, rfl⟩ := hgw.later
  have hl := hd.len
  simp at hl
  obtain ⟨r0, hr0⟩ : ∃ r, rs[0]? = some r := ⟨rs[0]'(by omega), by simp⟩
  obtain ⟨r1, hr1⟩ : ∃ r, rs[1]? = some r := ⟨rs[1]'(by omega), by simp⟩
  obtain ⟨g, rfl, _, k0, _⟩ := hd.at hr0
  obtain ⟨g', e', _, k1, _⟩ := hd.at hr1
  injection e' with e'
  injection e' with e'
  subst e'
  have hp0 : r0.2.2.2 = 1 := by
    have : (rs.map (fun r => (r.2.2.1, r.2.2.2)))[0]? = some ([1], 1) := by rw [hd.eqs]; rfl
    rw [List.getElem?_map, hr0] at this
    simpa using congrArg (Option.map Prod.snd) this
  have hp1 : r1.2.2.2 = 2 := by
    have : (rs.map (fun r => (r.2.2.1, r.2.2.2)))[1]? = some ([0], 2) := by rw [hd.eqs]; rfl
    rw [List.getElem?_map, hr1] at this
    simpa using congrArg (Option.map Prod.snd) this
  rw [hp0] at k0
  rw [hp1] at k1
  simp at k0 k1
  clear hd hl hr0 hr1 hp0 hp1 hg CN
  go_wp2_with fail
  go_ret
  exact ⟨rfl, hgw.trans GG⟩
end Go.Proofs.YtgplpgldhoelcaaGreat

namespace Go.Proofs.YtgplpgldhoelcaaGreat
open Go Go.RowKit
attribute [local go_sem] Oper.semAt_some
set_option maxRecDepth 20000 in
set_option maxHeartbeats 8000000 in
theorem yenWaysW (N : Int) (A : Option Addr) (n c : Nat) (E : List Edg) (s t k : Int) (w : World) (_ : I64 N) (_ : n ≤ c) (h : Rd w A 3 n (esCells E)) (_ : ∀ k, k < n → edgOk (ge E k)) (_ : I64 s) (_ : I64 t) (_ : I64 k) :
    Calls Tryz.prog 4 #[.agg #[.int .i64 N, .slice A n c], .int .i64 s, .int .i64 t, .int .i64 k] w fun e w' => e = .returned (.bool true) ∧ Grows w w' := by
  have C5 := hide (fun (W : World) => alive31 W)
  have C6 := hide (fun (W : World) => lLight30 N A n c W)
  obtain rfl : E.length = n := h.elen
  cases hl : lightY N E.length with
  | false =>
    rw [hl] at C6
    generalize E.length = n at *
    clear h hl
    go_enter Tryz.func4, Tryz.ntmps4
    go_wp2_with (first | (go_at_call 17; refine (C6.out _).mono ?_; rintro e w' ⟨rfl, hg⟩; (first | obtain ⟨x, rfl⟩ := Grows.later2 hg | obtain ⟨x, rfl⟩ := Grows.later hg); clear hg) | (go_at_call 18; refine (C5.out _).mono ?_; rintro e w' ⟨rfl, hg⟩; (first | obtain ⟨x, rfl⟩ := Grows.later2 hg | obtain ⟨x, rfl⟩ := Grows.later hg); clear hg))
    go_ret
    exact ⟨rfl, GG⟩
  | true =>
    rw [hl] at C6
    have hlt := lightY_of hl
    clear hl
    by_cases hbad : yeF N E s t ≠ 0
    · have C1 := hide (fun (X : World) (g : Grows w X) => yeWaysBad N A E.length c E s t k X (h.grows g) (by omega) hbad)
      have C2 := hide (fun (X : World) (g : Grows w X) => r31WaysBad N A E.length c E s t k X (h.grows g) (by omega) hbad)
      have C3 := hide (fun (W : World) => show Calls Tryz.prog 21 #[.slice none 0 0, .slice none 0 0] W fun e w' => e = .returned (.bool true) ∧ Grows W w' from r8RoutesEq 0 0 none none 0 0 [] [] [] W (RtsAt.nil _ _) (RtsAt.nil _ _) (by simp) (by simp))
      generalize E.length = n at *
      generalize yeF N E s t = f at *
      clear h hbad hlt
      go_enter Tryz.func4, Tryz.ntmps4
      go_wp2_with (first | (go_at_call 17; refine (C6.out _).mono ?_; rintro e w' ⟨rfl, hg⟩; (first | obtain ⟨x, rfl⟩ := Grows.later2 hg | obtain ⟨x, rfl⟩ := Grows.later hg); clear hg) | (go_at_call 19; refine (C1.out _ GG).mono ?_; rintro e w' ⟨rfl, hg⟩; (first | obtain ⟨x, rfl⟩ := Grows.later2 hg | obtain ⟨x, rfl⟩ := Grows.later hg); clear hg) | (go_at_call 20; refine (C2.out _ GG).mono ?_; rintro e w' ⟨rfl, hg⟩; (first | obtain ⟨x, rfl⟩ := Grows.later2 hg | obtain ⟨x, rfl⟩ := Grows.later hg); clear hg) | (go_at_call 21; refine (C3.out _).mono ?_; rintro e w' ⟨rfl, hg⟩; (first | obtain ⟨x, rfl⟩ := Grows.later2 hg | obtain ⟨x, rfl⟩ := Grows.later hg); clear hg) | (go_at_call 18; refine (C5.out _).mono ?_; rintro e w' ⟨rfl, hg⟩; (first | obtain ⟨x, rfl⟩ := Grows.later2 hg | obtain ⟨x, rfl⟩ := Grows.later hg); clear hg))
      go_ret
      exact ⟨rfl, GG⟩
    · have hok : yeF N E s t = 0 := by omega
      by_cases hk : k < 1 ∨ 1024 < k
      · obtain ⟨hr, NN, sN, tN', rfl, rfl, rfl, hs, ht⟩ := yeF_ok hok
        have C1 := hide (fun (X : World) (g : Grows w X) => yeWaysK NN A E.length c E sN tN' k X (h.grows g) (by omega) hr hs ht hk)
        have C2 := hide (fun (X : World) (g : Grows w X) => r31WaysK (NN : Int) A E.length c E (sN : Int) (tN' : Int) k X (h.grows g) (by omega) hok hk)
        have C3 := hide (fun (W : World) => show Calls Tryz.prog 21 #[.slice none 0 0, .slice none 0 0] W fun e w' => e = .returned (.bool true) ∧ Grows W w' from r8RoutesEq 0 0 none none 0 0 [] [] [] W (RtsAt.nil _ _) (RtsAt.nil _ _) (by simp) (by simp))
        generalize E.length = n at *
        clear h hok hlt hr hbad hk
        go_enter Tryz.func4, Tryz.ntmps4
        go_wp2_with (first | (go_at_call 17; refine (C6.out _).mono ?_; rintro e w' ⟨rfl, hg⟩; (first | obtain ⟨x, rfl⟩ := Grows.later2 hg | obtain ⟨x, rfl⟩ := Grows.later hg); clear hg) | (go_at_call 19; refine (C1.out _ GG).mono ?_; rintro e w' ⟨rfl, hg⟩; (first | obtain ⟨x, rfl⟩ := Grows.later2 hg | obtain ⟨x, rfl⟩ := Grows.later hg); clear hg) | (go_at_call 20; refine (C2.out _ GG).mono ?_; rintro e w' ⟨rfl, hg⟩; (first | obtain ⟨x, rfl⟩ := Grows.later2 hg | obtain ⟨x, rfl⟩ := Grows.later hg); clear hg) | (go_at_call 21; refine (C3.out _).mono ?_; rintro e w' ⟨rfl, hg⟩; (first | obtain ⟨x, rfl⟩ := Grows.later2 hg | obtain ⟨x, rfl⟩ := Grows.later hg); clear hg) | (go_at_call 18; refine (C5.out _).mono ?_; rintro e w' ⟨rfl, hg⟩; (first | obtain ⟨x, rfl⟩ := Grows.later2 hg | obtain ⟨x, rfl⟩ := Grows.later hg); clear hg))
        go_ret
        exact ⟨rfl, GG⟩
      · obtain ⟨hr, NN, sN, tN', rfl, rfl, rfl, hs, ht⟩ := yeF_ok hok
        obtain ⟨kN, rfl⟩ : ∃ kN : Nat, k = (kN : Int) := ⟨k.toNat, by omega⟩
        have hin := (right_in hr).2.2.2.1
        have hN4 := (right_in hr).2.1
        rw [Int.toNat_natCast] at hin
        have hall := srt_is (t := tN') hin hs
        have hfew := rows_few (N := NN) (s := sN) (t := tN') hlt.2
        have halen : (srtL E (rowsL E NN sN tN')).length ≤ 3200 := by
          have := srtL_len E (rowsL E NN sN tN') _ (Nat.le_refl _)
          rw [List.take_length] at this
          omega
        have hshort : ∀ p ∈ srtL E (rowsL E NN sN tN'), p.length ≤ 1000000 := fun p hp => by
          have := ((hall.mem p).1 hp).short hr hs
          omega
        have C1 := hide (fun (X : World) (g : Grows w X) => yeWays NN A E.length c E sN tN' kN _ X (h.grows g) (by omega) hr (by omega) hs ht hall (by omega) (by omega) (by omega))
        have C2 := hide (fun (X : World) (g : Grows w X) => r31Ways NN A c E sN tN' kN X (h.grows g) hr (by omega) hs ht hlt.2 (by omega) (by omega))
        have C3 := hide (fun (W : World) (A1 A2 : Option Addr) (c1 c2 : Nat) (rs1 rs2 : List Rt) (B1 B2 : Nat) (h1 : RtsAt W B1 A1 c1 rs1 (rtW E ((srtL E (rowsL E NN sN tN')).take kN))) (h2 : RtsAt W B2 A2 c2 rs2 (rtW E ((srtL E (rowsL E NN sN tN')).take kN))) => r8RoutesEq B1 B2 A1 A2 c1 c2 rs1 rs2 _ W h1 h2 (by simp [rtW]; omega) (fun p hp => by
          obtain ⟨q, hq, rfl⟩ := List.mem_map.1 hp
          exact hshort q (List.mem_of_mem_take hq)))
        generalize rtW E ((srtL E (rowsL E NN sN tN')).take kN) = ps at *
        generalize E.length = n at *
        clear h hok hr hbad hk hin hN4 hall hfew halen hshort hlt
        go_enter Tryz.func4, Tryz.ntmps4
        go_wp2_with (first
          | (go_at_call 17; refine (C6.out _).mono ?_; rintro e w' ⟨rfl, hg⟩; obtain ⟨x1, rfl⟩ := hg.later; clear hg)
          | (go_at_call 19; refine (C1.out _ GG).mono ?_; rintro e w' ⟨A1, c1, rs1, rfl, ho1, hg⟩; obtain ⟨x2, rfl⟩ := hg.later; have HO1 := hide ho1; clear hg ho1)
          | (go_at_call 20; refine (C2.out _ GG).mono ?_; rintro e w' ⟨A2, c2, rs2, rfl, ho2, hg⟩; obtain ⟨x3, rfl⟩ := hg.later; have HO2 := hide ho2; clear hg ho2)
          | (go_at_call 21; refine (C3.out _ A1 A2 c1 c2 rs1 rs2 _ _ (HO1.out.grows GG) (HO2.out.grows GG)).mono ?_; rintro e w' ⟨rfl, hg⟩; obtain ⟨x4, rfl⟩ := hg.later; clear hg)
          | (go_at_call 18; refine (C5.out _).mono ?_; rintro e w' ⟨rfl, hg⟩; obtain ⟨x5, rfl⟩ := hg.later; clear hg))
        go_ret
        exact ⟨rfl, GG⟩
end Go.Proofs.YtgplpgldhoelcaaGreat

namespace Go.Proofs.YtgplpgldhoelcaaGreat.lawYenWays
open Go Go.ChangeShapes Go.WideShapes Go.ChangeAt Go.RowKit Go.Proofs.YtgplpgldhoelcaaGreat

theorem own : ownKnob Tryz.prog.godebug = none := by kernel_rfl
theorem laidOut : laidOutB Tryz.prog = true := by kernel_rfl

set_option maxRecDepth 100000 in
theorem lifted (os : Os) (started : os.Started) (H : Type) (enc : TypeId × Value → H) :
    ReturnsInHanded {} Tryz.checked os 4 .any (Rows.yenWaysSpec.pre6 enc Tryz.prog Tryz.f4 Rows.yenWaysRow.domain false) (Rows.yenWaysSpec.post enc Tryz.prog Tryz.f4 false true false false) := by
  refine returnsInHanded_of_change (C := Tryz.checked) own started (by kernel_rfl) Tryz.func4
    (ChangeSpec.witness6 (enc := enc) (C := Tryz.checked) false ⟨#[], #[.agg #[.int .i64 0, .slice none 0 0], .int .i64 0, .int .i64 0, .int .i64 0], []⟩ 8 (by kernel_rfl) (by kernel_rfl) (by kernel_rfl) (by kernel_rfl)) ?_
  intro W base args ds gs before hval0 hW hcnd _
  have hval : ∀ (j : Nat) t v, Tryz.f4.params[j]? = some t → args[j]? = some v → Value.okWide Tryz.prog W .any base t v := hval0
  have hW' := hW
  obtain ⟨p, q, hA0, hV, rfl, hfz, hnd⟩ := hW
  have hA : DataW.TrodAll enc Tryz.prog W 0 (fun _ => true) true Tryz.f4.params.toList args.toList ds p := hA0
  rw [Tryz.params4] at hA hval
  obtain ⟨v0, vs0, d0, ds0, p0, q0, hargs, rfl, rfl, h0, r0⟩ := trodAll_cons hA
  obtain ⟨v1, vs1, d1, ds1, p1, q1, rfl, rfl, rfl, h1, r1⟩ := trodAll_cons r0
  obtain ⟨v2, vs2, d2, ds2, p2, q2, rfl, rfl, rfl, h2, r2⟩ := trodAll_cons r1
  obtain ⟨v3, vs3, d3, ds3, p3, q3, rfl, rfl, rfl, h3, r3⟩ := trodAll_cons r2
  obtain ⟨rfl, rfl, rfl⟩ := trodAll_nil r3
  obtain rfl : args = #[v0, v1, v2, v3] := by cases args; simp_all
  obtain ⟨rfl, rfl⟩ := trodVars_none hV
  have k0 := h0
  have lt0 : ∀ x ∈ p0, x.block < W.heap.size := by obtain ⟨m, hm⟩ := k0; exact DataW.trod_lt m _ _ _ hm
  obtain ⟨a0, A0, n0, c0, z0, rfl, x0, l0, w0, u0⟩ := open_graph Tryz.underlying35 Tryz.underlying3 Tryz.underlying33 Tryz.underlying84 Tryz.underlying3 Tryz.underlying3 Tryz.underlying41 ⟨rfl, rfl, rfl⟩ ⟨by kernel_rfl, by kernel_rfl, by kernel_rfl⟩ (by kernel_rfl) (by kernel_rfl) (by kernel_rfl) (hval 0 35 v0 rfl rfl) h0
  have k1 := h1
  have lt1 : ∀ x ∈ p1, x.block < W.heap.size := by obtain ⟨m, hm⟩ := k1; exact DataW.trod_lt m _ _ _ hm
  obtain ⟨a1, rfl, w1⟩ := open_i64 Tryz.underlying3 (hval 1 3 v1 rfl rfl) h1
  have k2 := h2
  have lt2 : ∀ x ∈ p2, x.block < W.heap.size := by obtain ⟨m, hm⟩ := k2; exact DataW.trod_lt m _ _ _ hm
  obtain ⟨a2, rfl, w2⟩ := open_i64 Tryz.underlying3 (hval 2 3 v2 rfl rfl) h2
  have k3 := h3
  have lt3 : ∀ x ∈ p3, x.block < W.heap.size := by obtain ⟨m, hm⟩ := k3; exact DataW.trod_lt m _ _ _ hm
  obtain ⟨a3, rfl, w3⟩ := open_i64 Tryz.underlying3 (hval 3 3 v3 rfl rfl) h3
  clear hA0 hval0
  refine (yenWaysW a0 A0 n0 c0 z0 a1 a2 a3 W x0 l0 w0 u0 w1 w2 w3).mono fun e W' ⟨he, bel⟩ => ?_
  subst he
  exact ⟨_, rfl, _, _, _, [], _, [], hW', trodAll_mk1 (shut_bool Tryz.underlying4 _), (trodAll_cons_mk (Below.trod laidOut (by kernel_rfl) (of_decide_eq_true (by kernel_rfl)) k0 bel lt0) (trodAll_cons_mk (Below.trod laidOut (by kernel_rfl) (of_decide_eq_true (by kernel_rfl)) k1 bel lt1) (trodAll_cons_mk (Below.trod laidOut (by kernel_rfl) (of_decide_eq_true (by kernel_rfl)) k2 bel lt2) (trodAll_cons_mk (Below.trod laidOut (by kernel_rfl) (of_decide_eq_true (by kernel_rfl)) k3 bel lt3) trodAll_mk0)))), rfl, Below.frame bel _, fun h => by cases h⟩

theorem over : Rows.yenWaysRow.holds Tryz.pinned (OpenSpec.ofChange Rows.yenWaysSpec) :=
  OpenClaim.holds_of_wide 4 Tryz.f4 rfl rfl rfl rfl rfl rfl rfl ⟨rfl, rfl, rfl, rfl, rfl⟩ rfl rfl rfl rfl rfl (by kernel_rfl) Tryz.func4 (by kernel_rfl)
    (of_decide_eq_true (by kernel_rfl)) (by unfold Func.isWrapper; first | (rw [if_pos (by decide +kernel)]; kernel_rfl) | (rw [if_neg (by decide +kernel)]; exact ⟨rfl, rfl⟩))
    (fun os started H enc _ => lifted os started H enc)

end Go.Proofs.YtgplpgldhoelcaaGreat.lawYenWays
namespace Go.Proofs.YtgplpgldhoelcaaGreat
theorem yenWays_proved : Rows.YenWaysSaid := lawYenWays.over
#print axioms yenWays_proved
end Go.Proofs.YtgplpgldhoelcaaGreat

