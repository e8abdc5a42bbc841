/- Contracts: the document's answer on what goes up, and on hierarchies that are the same. -/
import Derived.Test.YteodapefimlakaaQHierLooks03
import Derived.Test.YteodapefimlakaaQHierLooks00
/- Contracts: what is looked up in a hierarchy, and the document's answer. -/
namespace Go.Proofs.Yteodapefimlakaa
open Go Go.RowKit
attribute [local go_sem] Oper.semAt_some
set_option maxRecDepth 20000 in
theorem sc_eq (a b c d e f : Int) (W : World) : (Op.equalIn 10000 45 (.agg #[.int .i64 a, .int .i64 b, .int .u64 c, .int .i64 d, .int .i64 e, .int .i64 f]) (.agg #[.int .i64 a, .int .i64 b, .int .u64 c, .int .i64 d, .int .i64 e, .int .i64 f])).run Try.prog W = .ok true W := by
  have h1 : ∀ x : Int, ∀ w : World, (Op.equalIn 9999 3 (.int .i64 x) (.int .i64 x)).run Try.prog w = .ok true w := fun x w => by
    rw [show (9999 : Nat) = 9998 + 1 from rfl, run_equalIn_int w 9998 3 .i64 .i64 x x Try.underlying3, beq_self_eq_true]
  have h2 : ∀ x : Int, ∀ w : World, (Op.equalIn 9999 43 (.int .u64 x) (.int .u64 x)).run Try.prog w = .ok true w := fun x w => by
    rw [show (9999 : Nat) = 9998 + 1 from rfl, run_equalIn_int w 9998 43 .u64 .u64 x x Try.underlying43, beq_self_eq_true]
  rw [show (10000 : Nat) = 9999 + 1 from rfl]
  unfold Op.equalIn
  have hp0 : ∀ (w : World), (part 3 #[Value.int .i64 a, Value.int .i64 b, Value.int .u64 c, Value.int .i64 d, Value.int .i64 e, Value.int .i64 f] 0).run Try.prog w = .ok (.int .i64 a) w := fun w => by kernel_rfl
  have hp1 : ∀ (w : World), (part 3 #[Value.int .i64 a, Value.int .i64 b, Value.int .u64 c, Value.int .i64 d, Value.int .i64 e, Value.int .i64 f] 1).run Try.prog w = .ok (.int .i64 b) w := fun w => by kernel_rfl
  have hp2 : ∀ (w : World), (part 43 #[Value.int .i64 a, Value.int .i64 b, Value.int .u64 c, Value.int .i64 d, Value.int .i64 e, Value.int .i64 f] 2).run Try.prog w = .ok (.int .u64 c) w := fun w => by kernel_rfl
  have hp3 : ∀ (w : World), (part 3 #[Value.int .i64 a, Value.int .i64 b, Value.int .u64 c, Value.int .i64 d, Value.int .i64 e, Value.int .i64 f] 3).run Try.prog w = .ok (.int .i64 d) w := fun w => by kernel_rfl
  have hp4 : ∀ (w : World), (part 3 #[Value.int .i64 a, Value.int .i64 b, Value.int .u64 c, Value.int .i64 d, Value.int .i64 e, Value.int .i64 f] 4).run Try.prog w = .ok (.int .i64 e) w := fun w => by kernel_rfl
  have hp5 : ∀ (w : World), (part 3 #[Value.int .i64 a, Value.int .i64 b, Value.int .u64 c, Value.int .i64 d, Value.int .i64 e, Value.int .i64 f] 5).run Try.prog w = .ok (.int .i64 f) w := fun w => by kernel_rfl
  have hst : Try.prog.stoodInHeld 45 = false := by kernel_rfl
  have hpr : ∀ w : World, (program).run Try.prog w = .ok Try.prog w := fun w => rfl
  simp only [Sem.run_bind, run_underlying Try.underlying45, Result.andThen_ok, hpr, hst, Bool.false_eq_true, if_false, List.forIn_toArray, List.forIn_cons, List.forIn_nil]
  simp [h1, h2, hp0, hp1, hp2, hp3, hp4, hp5, Sem.run_bind, Result.andThen_ok]
set_option maxHeartbeats 1000000 in
theorem lLight21 (B : Option Addr) (m d : Nat) (A : Option Addr) (n c : Nat) (w : World) : Calls Try.prog 10 #[.agg #[.slice B m d, .slice A n c]] w fun e w' => e = .returned (.bool (decide (m ≤ 60) && decide (n ≤ 100))) ∧ Grows w w' := by
  by_cases h1 : m ≤ 60
  · have h2 : (m : Int) ≤ 60 := by omega
    rw [decide_eq_true h1]
    clear h1
    by_cases h3 : n ≤ 100
    · have h4 : (n : Int) ≤ 100 := by omega
      rw [decide_eq_true h3]
      clear h3
      go_enter Try.func10, Try.ntmps10
      go_wp2_with fail
      go_ret
      exact ⟨rfl, GG⟩
    · have h4 : decide ((n : Int) ≤ 100) = false := decide_eq_false (by omega)
      rw [decide_eq_false h3]
      clear h3
      go_enter Try.func10, Try.ntmps10
      go_wp2_with fail
      go_ret
      exact ⟨rfl, GG⟩
  · have h2 : decide ((m : Int) ≤ 60) = false := decide_eq_false (by omega)
    rw [decide_eq_false h1, Bool.false_and]
    clear h1
    go_enter Try.func10, Try.ntmps10
    go_wp2_with fail
    go_ret
    exact ⟨rfl, GG⟩
set_option maxHeartbeats 2000000 in
theorem hiNewNo (N : Int) (A : Option Addr) (n c : Nat) (E : List Edg) (B : Option Addr) (m d : Nat) (r : List Int) (A2 : Option Addr) (n2 c2 : Nat) (S : List SI) (w : World) (h : Rd w A 3 n (esCells E)) (hn : n ≤ 1000000) (hr : Rd w B 1 m (r.map (.int .i64))) (hm : m ≤ 1000000) (hS : Rd w A2 6 n2 (sis S)) (hn2 : n2 ≤ 1000000) (hcap : n2 ≤ c2) (hno : (hmR N E r S).2 = false) :
    Calls Try.prog 12 #[.agg #[.int .i64 N, .slice A n c], .agg #[.slice B m d, .slice A2 n2 c2]] w fun e w' => e = .returned (.tuple #[.pointer none, .int .i64 (if (hmR N E r S).1 = -2 then 1 else 4)]) ∧ Grows w w' := by
  have CM := hide (fun (W : World) (g : Grows w W) => hiMade N A n c E B m d r A2 n2 c2 S W (h.grows g) hn (hr.grows g) hm (hS.grows g) hn2 hcap)
  rw [hno] at CM
  generalize (hmR N E r S).1 = a at *
  clear h hr hS hno
  by_cases ha : a = -2
  · subst ha
    rw [if_pos rfl]
    go_enter Try.func12, Try.ntmps12
    go_wp2_with (go_at_call 51; refine (CM.out _ GG).mono ?_; rintro e w' ⟨rfl, hg⟩; obtain ⟨x1, rfl⟩ := hg.later; clear hg)
    exact bodyPost_ret (v := .tuple #[.pointer none, .int .i64 1]) (by simp (maxDischargeDepth := 6) [results, Try.results12, go_sem]) rfl ⟨rfl, GG⟩
  · have hb : (a == -2) = false := by simpa using ha
    rw [if_neg ha]
    clear ha
    go_enter Try.func12, Try.ntmps12
    go_wp2_with (go_at_call 51; refine (CM.out _ GG).mono ?_; rintro e w' ⟨rfl, hg⟩; obtain ⟨x1, rfl⟩ := hg.later; clear hg)
    exact bodyPost_ret (v := .tuple #[.pointer none, .int .i64 4]) (by simp (maxDischargeDepth := 6) [results, Try.results12, go_sem]) rfl ⟨rfl, GG⟩
section
variable {b N : Nat} {E : List Edg} {r : List Nat} {S : List SI} {w : World}
set_option maxHeartbeats 1000000 in
theorem hiShortcutOut (i : Int) (h : HiAt w b N E r S) (hi : i < 0 ∨ (S.length : Int) ≤ i) : Calls Try.prog 20 #[.pointer (some ⟨b, 0, none⟩), .int .i64 i] w fun e w' => e = .returned (.tuple #[.agg #[.int .i64 0, .int .i64 0, .int .u64 0, .int .i64 0, .int .i64 0, .int .i64 0], .bool false]) ∧ Grows w w' := by
  have CN := hide (fun (W : World) (g : Grows w W) => hiSize b N E r S W (h.grow g))
  generalize S.length = n2 at *
  clear h
  by_cases hv : i < 0
  · clear hi
    go_enter Try.func20, Try.ntmps20
    go_wp2_with (go_at_call 15; refine (CN.out _ GG).mono ?_; rintro e w' ⟨rfl, rfl⟩)
    exact bodyPost_ret (v := .tuple #[.agg #[.int .i64 0, .int .i64 0, .int .u64 0, .int .i64 0, .int .i64 0, .int .i64 0], .bool false]) (by simp (maxDischargeDepth := 6) [results, Try.results20, go_sem]) rfl ⟨rfl, GG⟩
  · have hv2 : (n2 : Int) ≤ i := hi.resolve_left hv
    have hv3 : 0 ≤ i := by omega
    clear hv hi
    go_enter Try.func20, Try.ntmps20
    go_wp2_with (go_at_call 15; refine (CN.out _ GG).mono ?_; rintro e w' ⟨rfl, rfl⟩)
    all_goals first | (exfalso; omega) | exact bodyPost_ret (v := .tuple #[.agg #[.int .i64 0, .int .i64 0, .int .u64 0, .int .i64 0, .int .i64 0, .int .i64 0], .bool false]) (by simp (maxDischargeDepth := 6) [results, Try.results20, go_sem]) rfl ⟨rfl, GG⟩
set_option maxHeartbeats 1000000 in
theorem hiRankOut (v : Int) (h : HiAt w b N E r S) (hi : v < 0 ∨ (N : Int) ≤ v) : Calls Try.prog 21 #[.pointer (some ⟨b, 0, none⟩), .int .i64 v] w fun e w' => e = .returned (.int .i64 (-1)) ∧ Grows w w' := by
  have CN := hide (fun (W : World) (g : Grows w W) => hiNodes b N E r S W (h.grow g))
  clear h
  by_cases hv : v < 0
  · clear hi
    go_enter Try.func21, Try.ntmps21
    go_wp2_with (go_at_call 14; refine (CN.out _ GG).mono ?_; rintro e w' ⟨rfl, rfl⟩)
    go_ret
    exact ⟨rfl, GG⟩
  · have hv2 : (N : Int) ≤ v := hi.resolve_left hv
    have hv3 : 0 ≤ v := by omega
    clear hv hi
    go_enter Try.func21, Try.ntmps21
    go_wp2_with (go_at_call 14; refine (CN.out _ GG).mono ?_; rintro e w' ⟨rfl, rfl⟩)
    all_goals first | (exfalso; omega) | (go_ret; exact ⟨rfl, GG⟩)
set_option maxHeartbeats 1000000 in
theorem hiRank (v : Nat) (h : HiAt w b N E r S) (hv : v < N) : Calls Try.prog 21 #[.pointer (some ⟨b, 0, none⟩), .int .i64 (v : Int)] w fun e w' => e = .returned (.int .i64 (gn r v : Int)) ∧ Grows w w' := by
  have CN := hide (fun (W : World) (g : Grows w W) => hiNodes b N E r S W (h.grow g))
  obtain ⟨A, c, B, d, A2, c2, go, gi_, h1, _, h3, _⟩ := h
  have hrl : r.length = N := by simpa [nv] using h3.len
  obtain ⟨bR, offR, rfl, hcR⟩ := (show Rd w B 1 N ((nvI r).map (.int .i64)) by rw [← nvI_vals]; exact h3).intsH (by omega)
  have k1 := hcR v hv
  rw [nvI_gi _ _ (by rw [hrl]; exact hv)] at k1
  generalize S.length = n2 at *
  generalize E.length = n at *
  clear hcR h3 hrl
  go_enter Try.func21, Try.ntmps21
  go_wp2_with (go_at_call 14; refine (CN.out _ GG).mono ?_; rintro e w' ⟨rfl, rfl⟩)
  all_goals first | (exfalso; omega) | (go_ret; exact ⟨rfl, GG⟩)
set_option maxHeartbeats 1000000 in
theorem hiRowOut (v : Int) (back : Bool) (h : HiAt w b N E r S) (hi : v < 0 ∨ (N : Int) ≤ v) : Calls Try.prog 54 #[.pointer (some ⟨b, 0, none⟩), .int .i64 v, .bool back] w fun e w' => e = .returned (.slice none 0 0) ∧ Grows w w' := by
  have CN := hide (fun (W : World) (g : Grows w W) => hiNodes b N E r S W (h.grow g))
  clear h
  by_cases hv : v < 0
  · clear hi
    go_enter Try.func54, Try.ntmps54
    go_wp2_with (go_at_call 14; refine (CN.out _ GG).mono ?_; rintro e w' ⟨rfl, rfl⟩)
    go_ret
    exact ⟨rfl, GG⟩
  · have hv2 : (N : Int) ≤ v := hi.resolve_left hv
    have hv3 : 0 ≤ v := by omega
    clear hv hi
    go_enter Try.func54, Try.ntmps54
    go_wp2_with (go_at_call 14; refine (CN.out _ GG).mono ?_; rintro e w' ⟨rfl, rfl⟩)
    all_goals first | (exfalso; omega) | (go_ret; exact ⟨rfl, GG⟩)
set_option maxHeartbeats 1000000 in
theorem hiUpOut (v : Int) (back : Bool) (h : HiAt w b N E r S) (hi : v < 0 ∨ (N : Int) ≤ v) : Calls Try.prog 22 #[.pointer (some ⟨b, 0, none⟩), .int .i64 v, .bool back] w fun e w' => e = .returned (.slice none 0 0) ∧ Grows w w' := by
  have CR := hide (fun (W : World) (g : Grows w W) => hiRowOut v back (h.grow g) hi)
  have CC := hide (fun (W : World) => Try.slices_Clone_int_nil 0 0 W)
  clear h hi
  go_enter Try.func22, Try.ntmps22
  go_wp2_with (first
    | (go_at_call 54; refine (CR.out _ GG).mono ?_; rintro e w' ⟨rfl, hg⟩; obtain ⟨x1, rfl⟩ := hg.later; clear hg)
    | (go_at_call 55; refine (CC.out _).mono ?_; rintro e w' ⟨rfl, rfl⟩))
  go_ret
  exact ⟨rfl, GG⟩
set_option maxHeartbeats 1000000 in
theorem hiRow (v : Nat) (back : Bool) (h : HiAt w b N E r S) (hv : v < N) : Calls Try.prog 54 #[.pointer (some ⟨b, 0, none⟩), .int .i64 (v : Int), .bool back] w fun e w' => ∃ A c, e = .returned (.slice A (upL r S back v S.length).length c) ∧ Rd w' A 1 (upL r S back v S.length).length (nv (upL r S back v S.length)) ∧ Grows w w' := by
  have CN := hide (fun (W : World) (g : Grows w W) => hiNodes b N E r S W (h.grow g))
  obtain ⟨A, c, B, d, A2, c2, go, gi_, h1, _, _, _, _, h6, h7, _⟩ := h
  obtain ⟨Ao, co, mo, ho⟩ := h6.row hv
  obtain ⟨Ai, ci, mi, hi⟩ := h7.row hv
  have HO := hide ho.rd
  have HI := hide hi.rd
  clear ho hi h6 h7
  cases back with
  | false =>
    generalize upL r S false v S.length = L at *
    generalize S.length = n2 at *
    generalize E.length = n at *
    clear mi HI
    go_enter Try.func54, Try.ntmps54
    go_wp2_with (go_at_call 14; refine (CN.out _ GG).mono ?_; rintro e w' ⟨rfl, rfl⟩)
    all_goals first | (exfalso; omega) | (go_ret; exact ⟨Ao, co, rfl, HO.out.grows GG, GG⟩)
  | true =>
    generalize upL r S true v S.length = L at *
    generalize S.length = n2 at *
    generalize E.length = n at *
    clear mo HO
    go_enter Try.func54, Try.ntmps54
    go_wp2_with (go_at_call 14; refine (CN.out _ GG).mono ?_; rintro e w' ⟨rfl, rfl⟩)
    all_goals first | (exfalso; omega) | (go_ret; exact ⟨Ai, ci, rfl, HI.out.grows GG, GG⟩)
set_option maxHeartbeats 1000000 in
theorem hiUp (v : Nat) (back : Bool) (h : HiAt w b N E r S) (hv : v < N) (hs : S.length ≤ 1000000) : Calls Try.prog 22 #[.pointer (some ⟨b, 0, none⟩), .int .i64 (v : Int), .bool back] w fun e w' => ∃ A c, e = .returned (.slice A (upL r S back v S.length).length c) ∧ Rd w' A 1 (upL r S back v S.length).length (nv (upL r S back v S.length)) ∧ Grows w w' := by
  have CR := hide (fun (W : World) (g : Grows w W) => hiRow v back (h.grow g) hv)
  have hl := upL_len r S back v S.length
  have CC := hide (fun (A : Option Addr) (c : Nat) (W : World) (h : Rd W A 1 (upL r S back v S.length).length (nv (upL r S back v S.length))) => cloneIH A (upL r S back v S.length).length c (nvI (upL r S back v S.length)) W (by rw [← nvI_vals]; exact h) (by omega))
  clear h
  generalize upL r S back v S.length = L at *
  go_enter Try.func22, Try.ntmps22
  go_wp2_with (first
    | (go_at_call 54; refine (CR.out _ GG).mono ?_; rintro e w' ⟨A1, c1, rfl, hr1, hg⟩; obtain ⟨x1, rfl⟩ := hg.later; have HR1 := hide hr1; clear hg hr1)
    | (go_at_call 55; refine (CC.out _ _ _ (HR1.out.grows GG)).mono ?_; rintro e w' ⟨A2, c2, rfl, ho2, hg⟩; obtain ⟨x2, rfl⟩ := hg.later; have HO2 := hide ho2; clear hg ho2))
  go_ret
  exact ⟨A2, c2, rfl, by have := HO2.out.rd; rwa [← nvI_vals] at this, GG⟩
end
end Go.Proofs.Yteodapefimlakaa

/- Contracts: the document's answer on what goes up, and on hierarchies that are the same. -/
namespace Go.Proofs.Yteodapefimlakaa
open Go Go.RowKit
attribute [local go_sem] Oper.semAt_some
set_option maxRecDepth 20000 in
set_option maxHeartbeats 8000000 in
theorem r21Up (N : Nat) (B : Option Addr) (d : Nat) (r : List Nat) (A2 : Option Addr) (n2 c2 : Nat) (S : List SI) (v : Nat) (back : Bool) (w : World) (hr : Rd w B 1 N (nv r)) (hS : Rd w A2 6 n2 (sis S)) (hn2 : n2 ≤ 1000000) (hv : v < N)
    (hends : ∀ i, i < n2 → ((0 ≤ (gsi S i).f ∧ (gsi S i).f < N) ∧ 0 ≤ (gsi S i).t ∧ (gsi S i).t < N) ∧ (gsi S i).f ≠ (gsi S i).t) (hinj : ∀ x y, x < N → y < N → gn r x = gn r y → x = y) :
    Calls Try.prog 24 #[.agg #[.slice B N d, .slice A2 n2 c2], .int .i64 (v : Int), .bool back] w fun e w' => ∃ A c, e = .returned (.slice A (upL r S back v n2).length c) ∧ Rd w' A 1 (upL r S back v n2).length (nv (upL r S back v n2)) ∧ Grows w w' := by
  have hrl : r.length = N := by simpa [nv] using hr.len
  obtain ⟨bR, offR, rfl, hcR⟩ := (show Rd w B 1 N ((nvI r).map (.int .i64)) by rw [← nvI_vals]; exact hr).intsH (by omega)
  have KR := hide (fun (x : Nat) (hx : x < N) => show Holds w ⟨bR, offR + x, none⟩ (.int .i64 (gn r x : Int)) by have := hcR x hx; rwa [nvI_gi _ _ (by rw [hrl]; exact hx)] at this)
  have kv := KR.out v hv
  have HSS := hide hS
  have HEND := hide hends
  have HINJ := hide hinj
  clear hr hS hends hinj hcR hrl
  go_enter Try.func24, Try.ntmps24
  go_wp2_with fail
  have hw1 : Grows w (w.alloc (.cells #[.slice (some ⟨bR, offR, none⟩) N d, .slice A2 n2 c2] 28)) := (Grows.refl _).new _
  have a3 : Arr (w.alloc (.cells #[.slice (some ⟨bR, offR, none⟩) N d, .slice A2 n2 c2] 28)) w.heap.size 28 [.slice (some ⟨bR, offR, none⟩) N d, .slice A2 n2 c2] := Arr.make _ _ _
  generalize w.alloc (.cells #[.slice (some ⟨bR, offR, none⟩) N d, .slice A2 n2 c2] 28) = W1 at *
  generalize w.heap.size = b3 at *
  obtain ⟨y1, rfl⟩ := hw1.later
  clear hw1
  go_loopw [7, 8] (fun s9 i wr => ∃ k : Nat, k ≤ n2 ∧ i = .int .i64 (k : Int) ∧ ∃ A9 c9, s9 = .slice A9 (upL r S back v k).length c9 ∧ ∃ y : Later y1.now, wr = y.now ∧ Own y.now y1.now.heap.size 3 1 A9 (upL r S back v k).length c9 (nv (upL r S back v k))) (fun s9 i _ => n2 - (Go.RowKit.intOf i).toNat)
  case atStart => exact ⟨0, by omega, by go_num, none, 0, rfl, ⟨_, Grows.refl _⟩, rfl, Own.nil _ _ _ _⟩
  case round =>
    obtain ⟨k, hk, rfl, A9, c9, rfl, y, rfl, ho⟩ := hrel
    have HO := hide ho
    have hnl := upL_len r S back v k
    clear ho
    by_cases hlt : k < n2
    · obtain ⟨bb, off, rfl, hcc⟩ := HSS.out.siH (by omega)
      obtain ⟨c1, c2', c3, c4, c5, c6⟩ := hcc k hlt
      obtain ⟨⟨⟨x1, x2⟩, x3, x4⟩, x5⟩ := HEND.out k hlt
      obtain ⟨u, hu⟩ : ∃ u : Nat, (gsi S k).f = (u : Int) := ⟨(gsi S k).f.toNat, by omega⟩
      obtain ⟨xt, hx⟩ : ∃ xt : Nat, (gsi S k).t = (xt : Int) := ⟨(gsi S k).t.toNat, by omega⟩
      rw [hu] at c1 x1 x2 x5
      rw [hx] at c2' x3 x4 x5
      have huN : u < N := by omega
      have hxN : xt < N := by omega
      have hrne : gn r xt ≠ gn r u := fun e => by have := HINJ.out xt u hxN huN e; omega
      have ku := KR.out u huN
      have kx := KR.out xt hxN
      have HU : Hid (upB r S back v k = if back = true then (decide (xt = v) && decide (gn r xt < gn r u)) else (decide (u = v) && !decide (gn r xt < gn r u))) := hide (by
        unfold upB
        rw [hu, hx, Int.toNat_natCast, Int.toNat_natCast, show decide ((u : Int) = (v : Int)) = decide (u = v) from decide_eq_decide.2 (by omega), show decide ((xt : Int) = (v : Int)) = decide (xt = v) from decide_eq_decide.2 (by omega)])
      clear hcc hu hx x1 x2 x3 x4 x5
      generalize (gsi S k).w = sw at *
      generalize (gsi S k).e = se at *
      generalize (gsi S k).a = sa at *
      generalize (gsi S k).b = sb at *
      cases back with
      | false =>
        rw [if_neg Bool.false_ne_true] at HU
        by_cases e1 : u = v
        · subst e1
          by_cases e2 : gn r u < gn r xt
          · have HE : Hid (upL r S false u (k + 1) = upL r S false u k ++ [k]) := hide (upL_yes (by rw [HU.out, decide_eq_true rfl, decide_eq_false (by omega)]; rfl))
            clear hrne HU
            generalize gn r u = ru at *
            generalize gn r xt = rx at *
            go_wp2_with fail
            ((first | refine wp_region_gen (by kernel_rfl) (by kernel_rfl) ?_); (repeat' (first | (refine gLex_val0 rfl (by kernel_rfl) (fun K hK => ?_); (go_simp; (try (simp only [↓IntWalk.iteOmega]; try go_simp)); (try simp (disch := omega) only [IntWalk.i64_in]); (try simp (disch := omega) only [IntWalk.u64_in]); first | (refine hK _ ?_; clear hK K) | (apply Exists.intro; refine ⟨fun x => ?_, hK _ ?_⟩; (first | fail); clear hK K))) | (refine gLex_undef rfl rfl rfl (by kernel_rfl) (fun K hK => ?_); go_simp; refine hK _ ?_; clear hK K) | (refine gLex_ask rfl rfl rfl ?_; first | (apply gAsk_yes; kernel_rfl; intro K hK; (go_simp; (try (simp only [↓IntWalk.iteOmega]; try go_simp)); (try simp (disch := omega) only [IntWalk.i64_in]); (try simp (disch := omega) only [IntWalk.u64_in]); first | (refine hK _ ?_; clear hK K) | (apply Exists.intro; refine ⟨fun x => ?_, hK _ ?_⟩; (first | fail); clear hK K))) | ((first | apply gAsk_no1 | apply gAsk_no2); kernel_rfl; intro K hK; simp [go_sem]; refine hK _ ?_; clear hK K) | (apply gAsk_part; kernel_rfl; all_goals (intro h K hK; (try simp only [Bool.not_true] at h); (try simp only [Bool.not_false] at h); (try simp only [decide_eq_true_eq] at h); (try simp only [decide_eq_false_iff_not] at h); first | (exfalso; first | contradiction | omega) | (go_simp; (try (simp only [↓IntWalk.iteOmega]; try go_simp)); (try simp (disch := omega) only [IntWalk.i64_in]); (try simp (disch := omega) only [IntWalk.u64_in]); first | (refine hK _ ?_; clear hK K) | (apply Exists.intro; refine ⟨fun x => ?_, hK _ ?_⟩; (first | fail); clear hK K))))))); all_goals ((apply gLex_end); intro x))
            go_wp2_with (at_builtin; refine wp_app1 elemInt rfl _ _ rfl y1.now GG (upL r S false u k).length c9 A9 _ rfl (HO.out.grows GG) _ _ _ rfl inferInstance rfl (by omega) ?_; intro A3 c3 y3 hown3; have HO3 := hide hown3; clear hown3)
            exact ⟨⟨k + 1, by omega, by go_num, A3, c3, by rw [HE.out, List.length_append, List.length_singleton], y3, rfl, by rw [HE.out, List.length_append, List.length_singleton, show nv (upL r S false u k ++ [k]) = nv (upL r S false u k) ++ [.int .i64 (k : Int)] by simp [nv]]; exact HO3.out⟩, by simp [Go.RowKit.intOf]; omega⟩
          · have HE : Hid (upL r S false u (k + 1) = upL r S false u k) := hide (upL_no (by rw [HU.out, decide_eq_true (by omega : gn r xt < gn r u)]; simp))
            clear hrne HU
            generalize gn r u = ru at *
            generalize gn r xt = rx at *
            go_wp2_with fail
            ((first | refine wp_region_gen (by kernel_rfl) (by kernel_rfl) ?_); (repeat' (first | (refine gLex_val0 rfl (by kernel_rfl) (fun K hK => ?_); (go_simp; (try (simp only [↓IntWalk.iteOmega]; try go_simp)); (try simp (disch := omega) only [IntWalk.i64_in]); (try simp (disch := omega) only [IntWalk.u64_in]); first | (refine hK _ ?_; clear hK K) | (apply Exists.intro; refine ⟨fun x => ?_, hK _ ?_⟩; (first | fail); clear hK K))) | (refine gLex_undef rfl rfl rfl (by kernel_rfl) (fun K hK => ?_); go_simp; refine hK _ ?_; clear hK K) | (refine gLex_ask rfl rfl rfl ?_; first | (apply gAsk_yes; kernel_rfl; intro K hK; (go_simp; (try (simp only [↓IntWalk.iteOmega]; try go_simp)); (try simp (disch := omega) only [IntWalk.i64_in]); (try simp (disch := omega) only [IntWalk.u64_in]); first | (refine hK _ ?_; clear hK K) | (apply Exists.intro; refine ⟨fun x => ?_, hK _ ?_⟩; (first | fail); clear hK K))) | ((first | apply gAsk_no1 | apply gAsk_no2); kernel_rfl; intro K hK; simp [go_sem]; refine hK _ ?_; clear hK K) | (apply gAsk_part; kernel_rfl; all_goals (intro h K hK; (try simp only [Bool.not_true] at h); (try simp only [Bool.not_false] at h); (try simp only [decide_eq_true_eq] at h); (try simp only [decide_eq_false_iff_not] at h); first | (exfalso; first | contradiction | omega) | (go_simp; (try (simp only [↓IntWalk.iteOmega]; try go_simp)); (try simp (disch := omega) only [IntWalk.i64_in]); (try simp (disch := omega) only [IntWalk.u64_in]); first | (refine hK _ ?_; clear hK K) | (apply Exists.intro; refine ⟨fun x => ?_, hK _ ?_⟩; (first | fail); clear hK K))))))); all_goals ((apply gLex_end); intro x))
            go_wp2_with fail
            exact ⟨⟨k + 1, by omega, by go_num, A9, c9, by rw [HE.out], ⟨_, GG⟩, rfl, by rw [HE.out]; exact HO.out.grows (show Grows y.now x.now from GG)⟩, by simp [Go.RowKit.intOf]; omega⟩
        · have HE : Hid (upL r S false v (k + 1) = upL r S false v k) := hide (upL_no (by rw [HU.out, decide_eq_false e1]; rfl))
          have b1 : ((u : Int) == (v : Int)) = false := by simp; omega
          clear hrne HU e1
          go_wp2_with fail
          ((first | refine wp_region_gen (by kernel_rfl) (by kernel_rfl) ?_); (repeat' (first | (refine gLex_val0 rfl (by kernel_rfl) (fun K hK => ?_); (go_simp; (try (simp only [↓IntWalk.iteOmega]; try go_simp)); (try simp (disch := omega) only [IntWalk.i64_in]); (try simp (disch := omega) only [IntWalk.u64_in]); first | (refine hK _ ?_; clear hK K) | (apply Exists.intro; refine ⟨fun x => ?_, hK _ ?_⟩; (first | fail); clear hK K))) | (refine gLex_undef rfl rfl rfl (by kernel_rfl) (fun K hK => ?_); go_simp; refine hK _ ?_; clear hK K) | (refine gLex_ask rfl rfl rfl ?_; first | (apply gAsk_yes; kernel_rfl; intro K hK; (go_simp; (try (simp only [↓IntWalk.iteOmega]; try go_simp)); (try simp (disch := omega) only [IntWalk.i64_in]); (try simp (disch := omega) only [IntWalk.u64_in]); first | (refine hK _ ?_; clear hK K) | (apply Exists.intro; refine ⟨fun x => ?_, hK _ ?_⟩; (first | fail); clear hK K))) | ((first | apply gAsk_no1 | apply gAsk_no2); kernel_rfl; intro K hK; simp [go_sem]; refine hK _ ?_; clear hK K) | (apply gAsk_part; kernel_rfl; all_goals (intro h K hK; (try simp only [Bool.not_true] at h); (try simp only [Bool.not_false] at h); (try simp only [decide_eq_true_eq] at h); (try simp only [decide_eq_false_iff_not] at h); first | (exfalso; first | contradiction | omega) | (go_simp; (try (simp only [↓IntWalk.iteOmega]; try go_simp)); (try simp (disch := omega) only [IntWalk.i64_in]); (try simp (disch := omega) only [IntWalk.u64_in]); first | (refine hK _ ?_; clear hK K) | (apply Exists.intro; refine ⟨fun x => ?_, hK _ ?_⟩; (first | fail); clear hK K))))))); all_goals ((apply gLex_end); intro x))
          go_wp2_with fail
          exact ⟨⟨k + 1, by omega, by go_num, A9, c9, by rw [HE.out], ⟨_, GG⟩, rfl, by rw [HE.out]; exact HO.out.grows (show Grows y.now x.now from GG)⟩, by simp [Go.RowKit.intOf]; omega⟩
      | true =>
        rw [if_pos rfl] at HU
        by_cases e1 : xt = v
        · subst e1
          by_cases e2 : gn r xt < gn r u
          · have HE : Hid (upL r S true xt (k + 1) = upL r S true xt k ++ [k]) := hide (upL_yes (by rw [HU.out, decide_eq_true rfl, decide_eq_true e2]; rfl))
            clear hrne HU
            generalize gn r u = ru at *
            generalize gn r xt = rx at *
            go_wp2_with fail
            ((first | refine wp_region_gen (by kernel_rfl) (by kernel_rfl) ?_); (repeat' (first | (refine gLex_val0 rfl (by kernel_rfl) (fun K hK => ?_); (go_simp; (try (simp only [↓IntWalk.iteOmega]; try go_simp)); (try simp (disch := omega) only [IntWalk.i64_in]); (try simp (disch := omega) only [IntWalk.u64_in]); first | (refine hK _ ?_; clear hK K) | (apply Exists.intro; refine ⟨fun x => ?_, hK _ ?_⟩; (first | fail); clear hK K))) | (refine gLex_undef rfl rfl rfl (by kernel_rfl) (fun K hK => ?_); go_simp; refine hK _ ?_; clear hK K) | (refine gLex_ask rfl rfl rfl ?_; first | (apply gAsk_yes; kernel_rfl; intro K hK; (go_simp; (try (simp only [↓IntWalk.iteOmega]; try go_simp)); (try simp (disch := omega) only [IntWalk.i64_in]); (try simp (disch := omega) only [IntWalk.u64_in]); first | (refine hK _ ?_; clear hK K) | (apply Exists.intro; refine ⟨fun x => ?_, hK _ ?_⟩; (first | fail); clear hK K))) | ((first | apply gAsk_no1 | apply gAsk_no2); kernel_rfl; intro K hK; simp [go_sem]; refine hK _ ?_; clear hK K) | (apply gAsk_part; kernel_rfl; all_goals (intro h K hK; (try simp only [Bool.not_true] at h); (try simp only [Bool.not_false] at h); (try simp only [decide_eq_true_eq] at h); (try simp only [decide_eq_false_iff_not] at h); first | (exfalso; first | contradiction | omega) | (go_simp; (try (simp only [↓IntWalk.iteOmega]; try go_simp)); (try simp (disch := omega) only [IntWalk.i64_in]); (try simp (disch := omega) only [IntWalk.u64_in]); first | (refine hK _ ?_; clear hK K) | (apply Exists.intro; refine ⟨fun x => ?_, hK _ ?_⟩; (first | fail); clear hK K))))))); all_goals ((apply gLex_end); intro x))
            go_wp2_with (at_builtin; refine wp_app1 elemInt rfl _ _ rfl y1.now GG (upL r S true xt k).length c9 A9 _ rfl (HO.out.grows GG) _ _ _ rfl inferInstance rfl (by omega) ?_; intro A3 c3 y3 hown3; have HO3 := hide hown3; clear hown3)
            exact ⟨⟨k + 1, by omega, by go_num, A3, c3, by rw [HE.out, List.length_append, List.length_singleton], y3, rfl, by rw [HE.out, List.length_append, List.length_singleton, show nv (upL r S true xt k ++ [k]) = nv (upL r S true xt k) ++ [.int .i64 (k : Int)] by simp [nv]]; exact HO3.out⟩, by simp [Go.RowKit.intOf]; omega⟩
          · have HE : Hid (upL r S true xt (k + 1) = upL r S true xt k) := hide (upL_no (by rw [HU.out, decide_eq_false e2]; simp))
            clear hrne HU
            generalize gn r u = ru at *
            generalize gn r xt = rx at *
            go_wp2_with fail
            ((first | refine wp_region_gen (by kernel_rfl) (by kernel_rfl) ?_); (repeat' (first | (refine gLex_val0 rfl (by kernel_rfl) (fun K hK => ?_); (go_simp; (try (simp only [↓IntWalk.iteOmega]; try go_simp)); (try simp (disch := omega) only [IntWalk.i64_in]); (try simp (disch := omega) only [IntWalk.u64_in]); first | (refine hK _ ?_; clear hK K) | (apply Exists.intro; refine ⟨fun x => ?_, hK _ ?_⟩; (first | fail); clear hK K))) | (refine gLex_undef rfl rfl rfl (by kernel_rfl) (fun K hK => ?_); go_simp; refine hK _ ?_; clear hK K) | (refine gLex_ask rfl rfl rfl ?_; first | (apply gAsk_yes; kernel_rfl; intro K hK; (go_simp; (try (simp only [↓IntWalk.iteOmega]; try go_simp)); (try simp (disch := omega) only [IntWalk.i64_in]); (try simp (disch := omega) only [IntWalk.u64_in]); first | (refine hK _ ?_; clear hK K) | (apply Exists.intro; refine ⟨fun x => ?_, hK _ ?_⟩; (first | fail); clear hK K))) | ((first | apply gAsk_no1 | apply gAsk_no2); kernel_rfl; intro K hK; simp [go_sem]; refine hK _ ?_; clear hK K) | (apply gAsk_part; kernel_rfl; all_goals (intro h K hK; (try simp only [Bool.not_true] at h); (try simp only [Bool.not_false] at h); (try simp only [decide_eq_true_eq] at h); (try simp only [decide_eq_false_iff_not] at h); first | (exfalso; first | contradiction | omega) | (go_simp; (try (simp only [↓IntWalk.iteOmega]; try go_simp)); (try simp (disch := omega) only [IntWalk.i64_in]); (try simp (disch := omega) only [IntWalk.u64_in]); first | (refine hK _ ?_; clear hK K) | (apply Exists.intro; refine ⟨fun x => ?_, hK _ ?_⟩; (first | fail); clear hK K))))))); all_goals ((apply gLex_end); intro x))
            go_wp2_with fail
            exact ⟨⟨k + 1, by omega, by go_num, A9, c9, by rw [HE.out], ⟨_, GG⟩, rfl, by rw [HE.out]; exact HO.out.grows (show Grows y.now x.now from GG)⟩, by simp [Go.RowKit.intOf]; omega⟩
        · have HE : Hid (upL r S true v (k + 1) = upL r S true v k) := hide (upL_no (by rw [HU.out, decide_eq_false e1]; rfl))
          have b1 : ((xt : Int) == (v : Int)) = false := by simp; omega
          clear hrne HU e1
          go_wp2_with fail
          ((first | refine wp_region_gen (by kernel_rfl) (by kernel_rfl) ?_); (repeat' (first | (refine gLex_val0 rfl (by kernel_rfl) (fun K hK => ?_); (go_simp; (try (simp only [↓IntWalk.iteOmega]; try go_simp)); (try simp (disch := omega) only [IntWalk.i64_in]); (try simp (disch := omega) only [IntWalk.u64_in]); first | (refine hK _ ?_; clear hK K) | (apply Exists.intro; refine ⟨fun x => ?_, hK _ ?_⟩; (first | fail); clear hK K))) | (refine gLex_undef rfl rfl rfl (by kernel_rfl) (fun K hK => ?_); go_simp; refine hK _ ?_; clear hK K) | (refine gLex_ask rfl rfl rfl ?_; first | (apply gAsk_yes; kernel_rfl; intro K hK; (go_simp; (try (simp only [↓IntWalk.iteOmega]; try go_simp)); (try simp (disch := omega) only [IntWalk.i64_in]); (try simp (disch := omega) only [IntWalk.u64_in]); first | (refine hK _ ?_; clear hK K) | (apply Exists.intro; refine ⟨fun x => ?_, hK _ ?_⟩; (first | fail); clear hK K))) | ((first | apply gAsk_no1 | apply gAsk_no2); kernel_rfl; intro K hK; simp [go_sem]; refine hK _ ?_; clear hK K) | (apply gAsk_part; kernel_rfl; all_goals (intro h K hK; (try simp only [Bool.not_true] at h); (try simp only [Bool.not_false] at h); (try simp only [decide_eq_true_eq] at h); (try simp only [decide_eq_false_iff_not] at h); first | (exfalso; first | contradiction | omega) | (go_simp; (try (simp only [↓IntWalk.iteOmega]; try go_simp)); (try simp (disch := omega) only [IntWalk.i64_in]); (try simp (disch := omega) only [IntWalk.u64_in]); first | (refine hK _ ?_; clear hK K) | (apply Exists.intro; refine ⟨fun x => ?_, hK _ ?_⟩; (first | fail); clear hK K))))))); all_goals ((apply gLex_end); intro x))
          go_wp2_with fail
          exact ⟨⟨k + 1, by omega, by go_num, A9, c9, by rw [HE.out], ⟨_, GG⟩, rfl, by rw [HE.out]; exact HO.out.grows (show Grows y.now x.now from GG)⟩, by simp [Go.RowKit.intOf]; omega⟩
    · obtain rfl : k = n2 := by omega
      go_wp2_with fail
      go_ret
      exact ⟨A9, c9, rfl, HO.out.rd, GG⟩
set_option maxRecDepth 20000 in
set_option maxHeartbeats 4000000 in
theorem r21Same (m n2 : Nat) (B : Option Addr) (d : Nat) (A : Option Addr) (c : Nat) (B' : Option Addr) (d' : Nat) (A' : Option Addr) (c' : Nat) (l : List Int) (S : List SI) (w : World) (h1 : Rd w B 1 m (l.map (.int .i64))) (h2 : Rd w A 6 n2 (sis S)) (h3 : Rd w B' 1 m (l.map (.int .i64))) (h4 : Rd w A' 6 n2 (sis S)) (hm : m ≤ 1000000) (hn2 : n2 ≤ 1000000) :
    Calls Try.prog 18 #[.agg #[.slice B m d, .slice A n2 c], .agg #[.slice B' m d', .slice A' n2 c']] w fun e w' => e = .returned (.bool true) ∧ Grows w w' := by
  have H1 := hide h1
  have H2 := hide h2
  have H3 := hide h3
  have H4 := hide h4
  clear h1 h2 h3 h4
  go_enter Try.func18, Try.ntmps18
  go_wp2_with fail
  have hw1 : Grows w ((w.alloc (.cells #[.slice B m d, .slice A n2 c] 28)).alloc (.cells #[.slice B' m d', .slice A' n2 c'] 28)) := ((Grows.refl _).new _).new _
  have a2 : Arr ((w.alloc (.cells #[.slice B m d, .slice A n2 c] 28)).alloc (.cells #[.slice B' m d', .slice A' n2 c'] 28)) w.heap.size 28 [.slice B m d, .slice A n2 c] := (Arr.make _ _ _).grow ((Grows.refl _).new _)
  have a3 : Arr ((w.alloc (.cells #[.slice B m d, .slice A n2 c] 28)).alloc (.cells #[.slice B' m d', .slice A' n2 c'] 28)) (w.heap.size + 1) 28 [.slice B' m d', .slice A' n2 c'] := by
    have h1 := Arr.make (w.alloc (.cells #[.slice B m d, .slice A n2 c] 28)) [.slice B' m d', .slice A' n2 c'] 28
    simpa using h1
  generalize (w.alloc (.cells #[.slice B m d, .slice A n2 c] 28)).alloc (.cells #[.slice B' m d', .slice A' n2 c'] 28) = W1 at *
  generalize w.heap.size + 1 = b3 at *
  generalize w.heap.size = b2 at *
  obtain ⟨y1, rfl⟩ := hw1.later
  clear hw1
  go_loopw [5] (fun i wr => ∃ k : Nat, k ≤ m ∧ i = .int .i64 (k : Int) ∧ ∃ y : Later y1.now, wr = y.now) (fun i _ => m - (Go.RowKit.intOf i).toNat)
  case atStart => exact ⟨0, by omega, by go_num, ⟨_, Grows.refl _⟩, rfl⟩
  case round =>
    obtain ⟨k, hk, rfl, y, rfl⟩ := hrel
    by_cases hlt : k < m
    · obtain ⟨bb, off, rfl, hcc⟩ := H1.out.intsH (by omega)
      obtain ⟨bb', off', rfl, hcc'⟩ := H3.out.intsH (by omega)
      have c1 := hcc k hlt
      have c2 := hcc' k hlt
      have hxx : (gi l k != gi l k) = false := by simp
      clear hcc hcc'
      generalize gi l k = x0 at *
      go_wp2_with fail
      ((first | refine wp_region_gen (by kernel_rfl) (by kernel_rfl) ?_); (repeat' (first | (refine gLex_val0 rfl (by kernel_rfl) (fun K hK => ?_); (go_simp; (try (simp only [↓IntWalk.iteOmega]; try go_simp)); (try simp (disch := omega) only [IntWalk.i64_in]); (try simp (disch := omega) only [IntWalk.u64_in]); first | (refine hK _ ?_; clear hK K) | (apply Exists.intro; refine ⟨fun x => ?_, hK _ ?_⟩; (first | fail); clear hK K))) | (refine gLex_undef rfl rfl rfl (by kernel_rfl) (fun K hK => ?_); go_simp; refine hK _ ?_; clear hK K) | (refine gLex_ask rfl rfl rfl ?_; first | (apply gAsk_yes; kernel_rfl; intro K hK; (go_simp; (try (simp only [↓IntWalk.iteOmega]; try go_simp)); (try simp (disch := omega) only [IntWalk.i64_in]); (try simp (disch := omega) only [IntWalk.u64_in]); first | (refine hK _ ?_; clear hK K) | (apply Exists.intro; refine ⟨fun x => ?_, hK _ ?_⟩; (first | fail); clear hK K))) | ((first | apply gAsk_no1 | apply gAsk_no2); kernel_rfl; intro K hK; simp [go_sem]; refine hK _ ?_; clear hK K) | (apply gAsk_part; kernel_rfl; all_goals (intro h K hK; (try simp only [Bool.not_true] at h); (try simp only [Bool.not_false] at h); (try simp only [decide_eq_true_eq] at h); (try simp only [decide_eq_false_iff_not] at h); first | (exfalso; first | contradiction | omega) | (go_simp; (try (simp only [↓IntWalk.iteOmega]; try go_simp)); (try simp (disch := omega) only [IntWalk.i64_in]); (try simp (disch := omega) only [IntWalk.u64_in]); first | (refine hK _ ?_; clear hK K) | (apply Exists.intro; refine ⟨fun x => ?_, hK _ ?_⟩; (first | fail); clear hK K))))))); all_goals ((apply gLex_end); intro x))
      go_wp2_with fail
      exact ⟨⟨k + 1, by omega, by go_num, ⟨_, GG⟩, rfl⟩, by simp [Go.RowKit.intOf]; omega⟩
    · obtain rfl : k = m := by omega
      go_wp2_with fail
      go_loopw [6] (fun i wr => ∃ q : Nat, q ≤ n2 ∧ i = .int .i64 (q : Int) ∧ ∃ y2 : Later y.now, wr = y2.now) (fun i _ => n2 - (Go.RowKit.intOf i).toNat)
      case atStart => exact ⟨0, by omega, by go_num, ⟨_, Grows.refl _⟩, rfl⟩
      case round =>
        obtain ⟨q, hq, rfl, y2, rfl⟩ := hrel
        by_cases hlq : q < n2
        · obtain ⟨bb, off, rfl, hcc⟩ := H2.out.siH (by omega)
          obtain ⟨bb', off', rfl, hcc'⟩ := H4.out.siH (by omega)
          obtain ⟨c1, c2', c3, c4, c5, c6⟩ := hcc q hlq
          obtain ⟨d1, d2, d3, d4, d5, d6⟩ := hcc' q hlq
          clear hcc hcc'
          generalize (gsi S q).f = sf at *
          generalize (gsi S q).t = st at *
          generalize (gsi S q).w = sw at *
          generalize (gsi S q).e = se at *
          generalize (gsi S q).a = sa at *
          generalize (gsi S q).b = sb at *
          have he := fun W => sc_eq sf st sw se sa sb W
          go_wp2_with fail
          ((first | refine wp_region_gen (by kernel_rfl) (by kernel_rfl) ?_); (repeat' (first | (refine gLex_val0 rfl (by kernel_rfl) (fun K hK => ?_); (go_simp; (try (simp only [↓IntWalk.iteOmega]; try go_simp)); (try simp (disch := omega) only [IntWalk.i64_in]); (try simp (disch := omega) only [IntWalk.u64_in]); first | (refine hK _ ?_; clear hK K) | (apply Exists.intro; refine ⟨fun x => ?_, hK _ ?_⟩; (first | fail); clear hK K))) | (refine gLex_undef rfl rfl rfl (by kernel_rfl) (fun K hK => ?_); go_simp; refine hK _ ?_; clear hK K) | (refine gLex_ask rfl rfl rfl ?_; first | (apply gAsk_yes; kernel_rfl; intro K hK; (go_simp; (try (simp only [↓IntWalk.iteOmega]; try go_simp)); (try simp (disch := omega) only [IntWalk.i64_in]); (try simp (disch := omega) only [IntWalk.u64_in]); first | (refine hK _ ?_; clear hK K) | (apply Exists.intro; refine ⟨fun x => ?_, hK _ ?_⟩; (first | fail); clear hK K))) | ((first | apply gAsk_no1 | apply gAsk_no2); kernel_rfl; intro K hK; simp [go_sem]; refine hK _ ?_; clear hK K) | (apply gAsk_part; kernel_rfl; all_goals (intro h K hK; (try simp only [Bool.not_true] at h); (try simp only [Bool.not_false] at h); (try simp only [decide_eq_true_eq] at h); (try simp only [decide_eq_false_iff_not] at h); first | (exfalso; first | contradiction | omega) | (go_simp; (try (simp only [↓IntWalk.iteOmega]; try go_simp)); (try simp (disch := omega) only [IntWalk.i64_in]); (try simp (disch := omega) only [IntWalk.u64_in]); first | (refine hK _ ?_; clear hK K) | (apply Exists.intro; refine ⟨fun x => ?_, hK _ ?_⟩; (first | fail); clear hK K))))))); all_goals ((apply gLex_end); intro x))
          go_wp2_with fail
          exact ⟨⟨q + 1, by omega, by go_num, ⟨_, GG⟩, rfl⟩, by simp [Go.RowKit.intOf]; omega⟩
        · obtain rfl : q = n2 := by omega
          go_wp2_with fail
          go_ret
          exact ⟨rfl, GG⟩
end Go.Proofs.Yteodapefimlakaa
