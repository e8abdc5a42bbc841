/- The law StateNames: for every input it returns true, and each argument reads as before. No condition. -/
import Derived.Test.YtlgojmniidfgpaaQStateNames00
import Derived.Test.YtlgojmniidfgpaaQStateNames01
/- Walk: each phase's name, and what a nil state says. -/
namespace Go.Proofs.Ytlgojmniidfgpaa
open Go Go.RowKit
def light20B (N : Int) (n : Nat) : Bool := lightG N n && (decide (N ≤ 12) || decide (4096 < N)) && decide (n ≤ 40)
set_option maxHeartbeats 1000000 in
theorem lLight20 (N : Int) (A : Option Addr) (n c : Nat) (w : World) : Calls Try.prog 6 #[.agg #[.int .i64 N, .slice A n c]] w fun e w' => e = .returned (.bool (light20B N n)) ∧ Grows w w' := by
  have CL := hide (fun (W : World) => lLight N A n c W)
  have HD : Hid (light20B N n = (lightG N n && (decide (N ≤ 12) || decide (4096 < N)) && decide (n ≤ 40))) := rfl
  generalize lightG N n = q at *
  generalize light20B N n = r at *
  go_enter Try.func6, Try.ntmps6
  go_wp2_with (go_at_call 18; refine (CL.out _).mono ?_; rintro e w' ⟨rfl, hg⟩; obtain ⟨x1, rfl⟩ := hg.later; clear hg)
  all_goals go_ret
  all_goals exact ⟨ret_bool (by rw [HD.out]; first | rfl | (apply bool_ext; simp [*]; try omega)), (by repeat (first | exact Grows.refl _ | refine Grows.now ?_ _ | refine Grows.new ?_ _ | refine Grows.drewN ?_ _ | refine Grows.drew ?_ | assumption | (refine Grows.set ?_ (by first | omega | (simp; done) | (simp; omega)) _)))⟩
theorem run_makeBools (n : Nat) (hn : n ≤ 1000000000) (w : World) : (Instr.makeSlice 91 (.int .i64 (n : Int)) (.int .i64 (n : Int))).run Try.prog w = .ok (.slice (some ⟨w.heap.size, 0, none⟩) n n) (w.alloc (.cells (List.replicate n (Value.bool false)).toArray 4)) := by
  have h : (Try.prog.info? 4).map (fun i => (i.zero, i.size, i.bytes)) = some (some (.bool false), 1, 1) := by kernel_rfl
  obtain ⟨i, h1, h2, h3, h4⟩ := info_parts h
  have := run_make_row (P := Try.prog) 91 4 i (.bool false) Try.underlying91 h1 h2 h3 rfl .i64 .i64 n (by rw [h4]; omega) (by omega) w
  have e : madeCells #[Value.bool false] n = (List.replicate n (Value.bool false)).toArray := Array.ext' (by rw [toList_madeCells_one])
  rw [e] at this
  exact this
set_option maxRecDepth 20000 in
set_option maxHeartbeats 1000000 in
theorem rkRightNil (w : World) : Calls Try.prog 38 #[.slice none 0 0] w fun e w' => e = .returned (.bool true) ∧ Grows w w' := by
  have mk : ∀ w : World, (Instr.makeSlice 91 (.int .i64 0) (.int .i64 0)).run Try.prog w = .ok (.slice (some ⟨w.heap.size, 0, none⟩) 0 0) (w.alloc (.cells #[] 4)) := fun w => run_makeBools 0 (by omega) w
  go_enter Try.func38, Try.ntmps38
  go_wp2_with fail
  go_loopw [11] (fun i wr => i = .int .i64 0 ∧ ∃ y : Later w, wr = y.now) (fun _ _ => 0)
  case atStart => exact ⟨rfl, ⟨_, (by repeat (first | exact Grows.refl _ | refine Grows.now ?_ _ | refine Grows.new ?_ _ | refine Grows.drewN ?_ _ | refine Grows.drew ?_ | assumption | (refine Grows.set ?_ (by first | omega | (simp; done) | (simp; omega)) _)))⟩, rfl⟩
  case round =>
    obtain ⟨rfl, x, rfl⟩ := hrel
    go_wp2_with fail
    go_ret
    exact ⟨rfl, (by repeat (first | exact Grows.refl _ | refine Grows.now ?_ _ | refine Grows.new ?_ _ | refine Grows.drewN ?_ _ | refine Grows.drew ?_ | assumption | (refine Grows.set ?_ (by first | omega | (simp; done) | (simp; omega)) _)))⟩
theorem coRight1 (n : Int) (w : World) : Calls Try.prog 88 #[.int .i64 n] w fun e w' => e = .returned (.bool (decide (1 ≤ n) && decide (n ≤ 1000))) ∧ w = w' := by
  go_enter Try.func88, Try.ntmps88
  go_wp2_with fail
  all_goals go_ret
  all_goals exact ⟨ret_bool (bool_ext (by simp_all; try omega)), rfl⟩
set_option maxHeartbeats 1000000 in
theorem coRightOne (w : World) : Calls Try.prog 56 #[.agg #[.int .i64 1, .int .i64 1, .slice none 0 0]] w fun e w' => e = .returned (.bool true) ∧ Grows w w' := by
  have C1 := hide (fun (W : World) => coRight1 1 W)
  have C2 := hide (fun (W : World) => rkRightNil W)
  have hd : (decide ((1 : Int) ≤ 1) && decide ((1 : Int) ≤ 1000)) = true := by decide
  rw [hd] at C1
  clear hd
  go_enter Try.func56, Try.ntmps56
  go_wp2_with (first | (go_at_call 88; refine (C1.out _).mono ?_; rintro e w' ⟨rfl, rfl⟩) | (go_at_call 38; refine (C2.out _).mono ?_; rintro e w' ⟨rfl, hg⟩; obtain ⟨x1, rfl⟩ := hg.later; clear hg))
  all_goals go_ret
  all_goals exact ⟨rfl, (by repeat (first | exact Grows.refl _ | refine Grows.now ?_ _ | refine Grows.new ?_ _ | refine Grows.drewN ?_ _ | refine Grows.drew ?_ | assumption | (refine Grows.set ?_ (by first | omega | (simp; done) | (simp; omega)) _)))⟩
theorem cloneNil (w : World) : Calls Try.prog 57 #[.slice none 0 0] w fun e w' => e = .returned (.slice none 0 0) ∧ Grows w w' := by
  have hnil := fun (w : World) (a : Option Addr) (n c n' c' : Nat) => Lib.run_eql_slice_nil (P := Try.prog) w 45 3 a n c n' c' Try.underlying45
  go_enter Try.func57, Try.ntmps57
  go_wp2_with fail
  go_ret
  exact ⟨rfl, (by repeat (first | exact Grows.refl _ | refine Grows.now ?_ _ | refine Grows.new ?_ _ | refine Grows.drewN ?_ _ | refine Grows.drew ?_ | assumption | (refine Grows.set ?_ (by first | omega | (simp; done) | (simp; omega)) _)))⟩
set_option maxHeartbeats 1000000 in
theorem stateNewOne (w : World) : Calls Try.prog 34 #[.agg #[.int .i64 1, .int .i64 1, .slice none 0 0]] w fun e w' => ∃ b, e = .returned (.tuple #[.pointer (some ⟨b, 0, none⟩), .int .i64 0]) ∧ Arr w' b 69 [.int .i64 1, .int .i64 1, .slice none 0 0, .int .i64 0, .int .i64 0, .slice none 0 0, .pointer none, .int .i64 0, .int .i64 0, .int .i64 0] ∧ w.heap.size ≤ b ∧ Grows w w' := by
  have C1 := hide (fun (W : World) => coRightOne W)
  have C2 := hide (fun (W : World) => cloneNil W)
  go_enter Try.func34, Try.ntmps34
  go_wp2_with (first | (go_at_call 56; refine (C1.out _).mono ?_; rintro e w' ⟨rfl, hg⟩; obtain ⟨x1, rfl⟩ := hg.later; clear hg) | (go_at_call 57; refine (C2.out _).mono ?_; rintro e w' ⟨rfl, hg⟩; obtain ⟨x2, rfl⟩ := hg.later; clear hg))
  refine bodyPost_ret (v := .tuple #[.pointer (some ⟨x2.now.heap.size, 0, none⟩), .int .i64 0]) (by simp (maxDischargeDepth := 6) [results, Try.results34, go_sem]) rfl ⟨x2.now.heap.size, rfl, ⟨by rw [show ∀ (w : World) (o : Obj), (w.alloc o).heap = w.heap.push o from fun _ _ => rfl, Array.getElem?_push, if_pos (by simp)]⟩, ?_, (by repeat (first | exact Grows.refl _ | refine Grows.now ?_ _ | refine Grows.new ?_ _ | refine Grows.drewN ?_ _ | refine Grows.drew ?_ | assumption | (refine Grows.set ?_ (by first | omega | (simp; done) | (simp; omega)) _)))⟩
  have h1 := x1.size
  have h2 := x2.size
  simp at h1
  omega
section
variable {w : World} {g : Nat} {t : TypeId}
instance Arr.q6 {v0 v1 v2 v3 v4 v5 v : Value} {l : List Value} [h : Arr w g t (v0 :: v1 :: v2 :: v3 :: v4 :: v5 :: v :: l)] : Mine w ⟨g, 6, none⟩ v := h.mine 6 rfl
instance Arr.q7 {v0 v1 v2 v3 v4 v5 v6 v : Value} {l : List Value} [h : Arr w g t (v0 :: v1 :: v2 :: v3 :: v4 :: v5 :: v6 :: v :: l)] : Mine w ⟨g, 7, none⟩ v := h.mine 7 rfl
instance Arr.q8 {v0 v1 v2 v3 v4 v5 v6 v7 v : Value} {l : List Value} [h : Arr w g t (v0 :: v1 :: v2 :: v3 :: v4 :: v5 :: v6 :: v7 :: v :: l)] : Mine w ⟨g, 8, none⟩ v := h.mine 8 rfl
instance Arr.q9 {v0 v1 v2 v3 v4 v5 v6 v7 v8 v : Value} {l : List Value} [h : Arr w g t (v0 :: v1 :: v2 :: v3 :: v4 :: v5 :: v6 :: v7 :: v8 :: v :: l)] : Mine w ⟨g, 9, none⟩ v := h.mine 9 rfl
end
theorem mayLoad (b : Nat) (w : World) (h : Holds w ⟨b, 3, none⟩ (.int .i64 0)) : Calls Try.prog 35 #[.pointer (some ⟨b, 0, none⟩), .int .i64 0] w fun e w' => e = .returned (.int .i64 0) ∧ w = w' := by
  go_enter Try.func35, Try.ntmps35
  go_wp2_with fail
  go_ret
  exact ⟨rfl, rfl⟩
theorem mayReady (b : Nat) (w : World) (h : Holds w ⟨b, 3, none⟩ (.int .i64 1)) : Calls Try.prog 35 #[.pointer (some ⟨b, 0, none⟩), .int .i64 2] w fun e w' => e = .returned (.int .i64 12) ∧ w = w' := by
  go_enter Try.func35, Try.ntmps35
  go_wp2_with fail
  go_ret
  exact ⟨rfl, rfl⟩
theorem mayNil (n : Int) (w : World) : Calls Try.prog 35 #[.pointer none, .int .i64 n] w fun e w' => e = .returned (.int .i64 1) ∧ w = w' := by
  go_enter Try.func35, Try.ntmps35
  go_wp2_with fail
  go_ret
  exact ⟨rfl, rfl⟩
set_option maxRecDepth 20000 in
set_option maxHeartbeats 4000000 in
theorem stateLoadOne (b : Nat) (w : World) (h : Arr w b 69 [.int .i64 1, .int .i64 1, .slice none 0 0, .int .i64 0, .int .i64 0, .slice none 0 0, .pointer none, .int .i64 0, .int .i64 0, .int .i64 0]) :
    Calls Try.prog 12 #[.pointer (some ⟨b, 0, none⟩), .agg #[.int .i64 1, .slice none 0 0]] w fun e w' => e = .returned (.int .i64 0) ∧ (∃ v1 v2 c0, Arr w' b 69 [.int .i64 1, .int .i64 1, .slice none 0 0, .int .i64 1, v1, v2, .pointer none, c0, .int .i64 0, .int .i64 0]) ∧ Touch (fun k => k = b) w w' := by
  have hn : Rd w none 3 0 (esCells []) := ⟨by simp [esCells], fun h => absurd h (by simp)⟩
  have C1 := hide (fun (W : World) => gRight 1 none 0 0 [] W (show Rd W none 3 0 (esCells []) from ⟨by simp [esCells], fun h => absurd h (by simp)⟩) (by omega))
  have C2 := hide (fun (W : World) => gClone 1 none 0 0 [] W (show Rd W none 3 0 (esCells []) from ⟨by simp [esCells], fun h => absurd h (by simp)⟩) (by simp))
  have hr : rightF 1 [] = 0 := by decide
  rw [hr] at C1
  have CM := hide (fun (W : World) (h : Holds W ⟨b, 3, none⟩ (.int .i64 0)) => mayLoad b W h)
  clear hr hn
  go_enter Try.func12, Try.ntmps12
  go_wp2_with (first | (go_at_call 35; refine (CM.out _ inferInstance).mono ?_; rintro e w' ⟨rfl, rfl⟩) | (go_at_call 37; refine (C1.out _).mono ?_; rintro e w' ⟨rfl, hg⟩; obtain ⟨x1, rfl⟩ := hg.later; clear hg) | (go_at_call 36; refine (C2.out _).mono ?_; rintro e w' ⟨A1, c1, rfl, ho, hg⟩; obtain ⟨x2, rfl⟩ := hg.later; clear hg))
  have a1 : Arr x2.now b 69 [.int .i64 1, .int .i64 1, .slice none 0 0, .int .i64 0, .int .i64 0, .slice none 0 0, .pointer none, .int .i64 0, .int .i64 0, .int .i64 0] := inferInstance
  have a2 := (((a1.set 4 (.int .i64 1)).set 5 (.slice A1 0 c1)).set 6 (.pointer none)).set 3 (.int .i64 1)
  have ht : Touch (fun k => k = b) w ((((x2.now.setCell ⟨b, 4, none⟩ (.int .i64 1)).setCell ⟨b, 5, none⟩ (.slice A1 0 c1)).setCell ⟨b, 6, none⟩ (.pointer none)).setCell ⟨b, 3, none⟩ (.int .i64 1)) :=
    (((((((Grows.refl w).new _).trans x1.grows).trans x2.grows).touch (fun k => k = b)).set (.inl rfl) _).set (.inl rfl) _ |>.set (.inl rfl) _).set (.inl rfl) _
  simp only [List.set_cons_zero, List.set_cons_succ] at a2
  have HT := hide ht
  generalize ((((x2.now.setCell ⟨b, 4, none⟩ (.int .i64 1)).setCell ⟨b, 5, none⟩ (.slice A1 0 c1)).setCell ⟨b, 6, none⟩ (.pointer none)).setCell ⟨b, 3, none⟩ (.int .i64 1)) = W at *
  clear ht a1 ho h C1 C2 CM
  go_region_with fail
  all_goals go_wp2_with fail
  have a3 : Arr (W.setCell ⟨b, 7, none⟩ (.int .i64 (IntKind.i64.wrap 1))).drew b 69 _ := (a2.set 7 (.int .i64 (IntKind.i64.wrap 1))).drew
  simp only [List.set_cons_zero, List.set_cons_succ] at a3
  go_ret
  exact ⟨rfl, ⟨_, _, _, a3⟩, (HT.out.set (.inl rfl) _).grows ((Grows.refl _).drew)⟩
set_option maxHeartbeats 1000000 in
theorem alive39 (w : World) : Calls Try.prog 7 #[] w fun e w' => e = .returned (.bool true) ∧ Grows w w' := by
  have C1 := hide (fun (W : World) => stateNewOne W)
  have C2 := hide (fun (b : Nat) (W : World) (h : Arr W b 69 _) => stateLoadOne b W h)
  have C3 := hide (fun (b : Nat) (W : World) (h : Holds W ⟨b, 3, none⟩ (.int .i64 1)) => mayReady b W h)
  go_enter Try.func7, Try.ntmps7
  go_wp2_with fail
  refine (C1.out _).mono ?_; rintro e w' ⟨b, rfl, ha, hb, hg⟩
  go_wp2_with fail
  refine (C2.out _ _ ha).mono ?_; rintro e w2 ⟨rfl, ⟨v1, v2, c0, ha2⟩, ht⟩
  have hgw : Grows w w2 := ht.later hg (fun k hk => by subst hk; exact hb)
  clear ha hg ht C1 C2
  go_wp2_with fail
  refine Calls.mono (show Calls Try.prog 16 #[.pointer (some ⟨b, 0, none⟩)] w2 fun e w' => e = .returned (.int .i64 12) ∧ w2 = w' from ?_) ?_
  · clear hgw
    go_enter Try.func16, Try.ntmps16
    go_wp2_with (go_at_call 35; refine (C3.out _ _ inferInstance).mono ?_; rintro e w' ⟨rfl, rfl⟩)
    go_ret
    exact ⟨rfl, rfl⟩
  · rintro e w' ⟨rfl, rfl⟩
    go_wp2_with fail
    refine Calls.mono (show Calls Try.prog 11 #[.pointer (some ⟨b, 0, none⟩)] w2 fun e w' => e = .returned (.int .i64 1) ∧ w2 = w' from ?_) ?_
    · clear hgw
      go_enter Try.func11, Try.ntmps11
      go_wp2_with fail
      go_ret
      exact ⟨rfl, rfl⟩
    · rintro e w' ⟨rfl, rfl⟩
      go_wp2_with fail
      go_ret
      exact ⟨rfl, hgw⟩
theorem nilPhase (w : World) : Calls Try.prog 11 #[.pointer none] w fun e w' => e = .returned (.int .i64 0) ∧ w = w' := by
  go_enter Try.func11, Try.ntmps11
  go_wp2_with fail
  go_ret
  exact ⟨rfl, rfl⟩
theorem nilCounts (w : World) : Calls Try.prog 8 #[.pointer none] w fun e w' => e = .returned (.tuple #[.int .i64 0, .int .i64 0, .int .i64 0]) ∧ w = w' := by
  go_enter Try.func8, Try.ntmps8
  go_wp2_with fail
  refine bodyPost_ret (v := .tuple #[.int .i64 0, .int .i64 0, .int .i64 0]) (by simp [results, Try.results8, go_sem]) rfl ⟨rfl, rfl⟩
theorem nilReady (w : World) : Calls Try.prog 16 #[.pointer none] w fun e w' => e = .returned (.int .i64 1) ∧ w = w' := by
  have C := hide (fun (W : World) => mayNil 2 W)
  go_enter Try.func16, Try.ntmps16
  go_wp2_with (go_at_call 35; refine (C.out _).mono ?_; rintro e w' ⟨rfl, rfl⟩)
  go_ret
  exact ⟨rfl, rfl⟩
theorem nilQuit (w : World) : Calls Try.prog 15 #[.pointer none] w fun e w' => e = .returned (.int .i64 1) ∧ w = w' := by
  have C := hide (fun (W : World) => mayNil 0 W)
  go_enter Try.func15, Try.ntmps15
  go_wp2_with (go_at_call 35; refine (C.out _).mono ?_; rintro e w' ⟨rfl, rfl⟩)
  go_ret
  exact ⟨rfl, rfl⟩
theorem nilSet (w : World) : Calls Try.prog 14 #[.pointer none, .int .i64 0, .int .u64 1] w fun e w' => e = .returned (.int .i64 1) ∧ Grows w w' := by
  have C := hide (fun (W : World) => mayNil 1 W)
  go_enter Try.func14, Try.ntmps14
  go_wp2_with (go_at_call 35; refine (C.out _).mono ?_; rintro e w' ⟨rfl, rfl⟩)
  go_ret
  exact ⟨rfl, (by repeat (first | exact Grows.refl _ | refine Grows.now ?_ _ | refine Grows.new ?_ _ | refine Grows.drewN ?_ _ | refine Grows.drew ?_ | assumption | (refine Grows.set ?_ (by first | omega | (simp; done) | (simp; omega)) _)))⟩
theorem nilBuild (w : World) : Calls Try.prog 13 #[.pointer none, .slice none 0 0] w fun e w' => e = .returned (.int .i64 1) ∧ Grows w w' := by
  have C := hide (fun (W : World) => mayNil 1 W)
  go_enter Try.func13, Try.ntmps13
  go_wp2_with (go_at_call 35; refine (C.out _).mono ?_; rintro e w' ⟨rfl, rfl⟩)
  go_ret
  exact ⟨rfl, (by repeat (first | exact Grows.refl _ | refine Grows.now ?_ _ | refine Grows.new ?_ _ | refine Grows.drewN ?_ _ | refine Grows.drew ?_ | assumption | (refine Grows.set ?_ (by first | omega | (simp; done) | (simp; omega)) _)))⟩
theorem nilLoad (N : Int) (A : Option Addr) (n c : Nat) (w : World) : Calls Try.prog 12 #[.pointer none, .agg #[.int .i64 N, .slice A n c]] w fun e w' => e = .returned (.int .i64 1) ∧ Grows w w' := by
  have C := hide (fun (W : World) => mayNil 0 W)
  go_enter Try.func12, Try.ntmps12
  go_wp2_with (go_at_call 35; refine (C.out _).mono ?_; rintro e w' ⟨rfl, rfl⟩)
  go_ret
  exact ⟨rfl, (by repeat (first | exact Grows.refl _ | refine Grows.now ?_ _ | refine Grows.new ?_ _ | refine Grows.drewN ?_ _ | refine Grows.drew ?_ | assumption | (refine Grows.set ?_ (by first | omega | (simp; done) | (simp; omega)) _)))⟩
theorem nilGraph (w : World) : Calls Try.prog 9 #[.pointer none] w fun e w' => e = .returned (.tuple #[.agg #[.int .i64 0, .slice none 0 0], .int .i64 1]) ∧ Grows w w' := by
  have C := hide (fun (W : World) => mayNil 1 W)
  go_enter Try.func9, Try.ntmps9
  go_wp2_with (go_at_call 35; refine (C.out _).mono ?_; rintro e w' ⟨rfl, rfl⟩)
  refine bodyPost_ret (v := .tuple #[.agg #[.int .i64 0, .slice none 0 0], .int .i64 1]) (by simp (maxDischargeDepth := 6) [results, Try.results9, go_sem]) rfl ⟨rfl, (by repeat (first | exact Grows.refl _ | refine Grows.now ?_ _ | refine Grows.new ?_ _ | refine Grows.drewN ?_ _ | refine Grows.drew ?_ | assumption | (refine Grows.set ?_ (by first | omega | (simp; done) | (simp; omega)) _)))⟩
theorem nilHier (w : World) : Calls Try.prog 10 #[.pointer none] w fun e w' => e = .returned (.tuple #[.pointer none, .int .i64 1]) ∧ w = w' := by
  have C := hide (fun (W : World) => nilReady W)
  go_enter Try.func10, Try.ntmps10
  go_wp2_with (go_at_call 16; refine (C.out _).mono ?_; rintro e w' ⟨rfl, rfl⟩)
  refine bodyPost_ret (v := .tuple #[.pointer none, .int .i64 1]) (by simp [results, Try.results10, go_sem]) rfl ⟨rfl, rfl⟩
def nameV (p : Int) : Value := if p = 0 then .string ⟨#[110, 111, 110, 101]⟩ else if p = 1 then .string ⟨#[108, 111, 97, 100, 101, 100]⟩ else if p = 2 then .string ⟨#[98, 117, 105, 108, 116]⟩ else if p = 3 then .string ⟨#[115, 116, 97, 108, 101]⟩ else if p = 4 then .string ⟨#[111, 118, 101, 114]⟩ else .string ⟨#[]⟩
set_option maxHeartbeats 1000000 in
theorem stateNameV (p : Int) (w : World) : Calls Try.prog 17 #[.int .i64 p] w fun e w' => e = .returned (nameV p) ∧ Grows w w' := by
  rcases (show p < 0 ∨ p = 0 ∨ p = 1 ∨ p = 2 ∨ p = 3 ∨ p = 4 ∨ 5 ≤ p by omega) with h | h | h | h | h | h | h
  · have hv : nameV p = .string ⟨#[]⟩ := by unfold nameV; simp [show p ≠ 0 by omega, show p ≠ 1 by omega, show p ≠ 2 by omega, show p ≠ 3 by omega, show p ≠ 4 by omega]
    have HV := hide hv
    have d1 : decide (p < 0) = true := decide_eq_true h
    clear h hv
    go_enter Try.func17, Try.ntmps17
    go_wp2_with fail
    go_ret
    exact ⟨by rw [HV.out]; rfl, (by repeat (first | exact Grows.refl _ | refine Grows.now ?_ _ | refine Grows.new ?_ _ | refine Grows.drewN ?_ _ | refine Grows.drew ?_ | assumption | (refine Grows.set ?_ (by first | omega | (simp; done) | (simp; omega)) _)))⟩
  · subst h
    go_enter Try.func17, Try.ntmps17
    go_wp2_with fail
    go_ret
    exact ⟨rfl, (by repeat (first | exact Grows.refl _ | refine Grows.now ?_ _ | refine Grows.new ?_ _ | refine Grows.drewN ?_ _ | refine Grows.drew ?_ | assumption | (refine Grows.set ?_ (by first | omega | (simp; done) | (simp; omega)) _)))⟩
  · subst h
    go_enter Try.func17, Try.ntmps17
    go_wp2_with fail
    go_ret
    exact ⟨rfl, (by repeat (first | exact Grows.refl _ | refine Grows.now ?_ _ | refine Grows.new ?_ _ | refine Grows.drewN ?_ _ | refine Grows.drew ?_ | assumption | (refine Grows.set ?_ (by first | omega | (simp; done) | (simp; omega)) _)))⟩
  · subst h
    go_enter Try.func17, Try.ntmps17
    go_wp2_with fail
    go_ret
    exact ⟨rfl, (by repeat (first | exact Grows.refl _ | refine Grows.now ?_ _ | refine Grows.new ?_ _ | refine Grows.drewN ?_ _ | refine Grows.drew ?_ | assumption | (refine Grows.set ?_ (by first | omega | (simp; done) | (simp; omega)) _)))⟩
  · subst h
    go_enter Try.func17, Try.ntmps17
    go_wp2_with fail
    go_ret
    exact ⟨rfl, (by repeat (first | exact Grows.refl _ | refine Grows.now ?_ _ | refine Grows.new ?_ _ | refine Grows.drewN ?_ _ | refine Grows.drew ?_ | assumption | (refine Grows.set ?_ (by first | omega | (simp; done) | (simp; omega)) _)))⟩
  · subst h
    go_enter Try.func17, Try.ntmps17
    go_wp2_with fail
    go_ret
    exact ⟨rfl, (by repeat (first | exact Grows.refl _ | refine Grows.now ?_ _ | refine Grows.new ?_ _ | refine Grows.drewN ?_ _ | refine Grows.drew ?_ | assumption | (refine Grows.set ?_ (by first | omega | (simp; done) | (simp; omega)) _)))⟩
  · have hv : nameV p = .string ⟨#[]⟩ := by unfold nameV; simp [show p ≠ 0 by omega, show p ≠ 1 by omega, show p ≠ 2 by omega, show p ≠ 3 by omega, show p ≠ 4 by omega]
    have HV := hide hv
    have d1 : decide (p < 0) = false := decide_eq_false (by omega)
    have d2 : decide (5 ≤ p) = true := decide_eq_true h
    clear h hv
    go_enter Try.func17, Try.ntmps17
    go_wp2_with fail
    go_ret
    exact ⟨by rw [HV.out]; rfl, (by repeat (first | exact Grows.refl _ | refine Grows.now ?_ _ | refine Grows.new ?_ _ | refine Grows.drewN ?_ _ | refine Grows.drew ?_ | assumption | (refine Grows.set ?_ (by first | omega | (simp; done) | (simp; omega)) _)))⟩
set_option maxRecDepth 20000 in
set_option maxHeartbeats 4000000 in
theorem stateNamesW (p N : Int) (A : Option Addr) (n c : Nat) (E : List Edg) (w : World) (_ : I64 p) (_ : I64 N) (_ : n ≤ c) (h : Rd w A 3 n (esCells E)) (_ : ∀ k, k < n → edgOk (ge E k)) :
    Calls Try.prog 3 #[.int .i64 p, .agg #[.int .i64 N, .slice A n c]] w fun e w' => e = .returned (.bool true) ∧ Grows w w' := by
  clear h
  have CL := hide (fun (W : World) => lLight20 N A n c W)
  have CA := hide (fun (W : World) => alive39 W)
  cases hq : light20B N n with
  | false =>
    rw [hq] at CL
    go_enter Try.func3, Try.ntmps3
    go_wp2_with (first | (go_at_call 6; refine (CL.out _).mono ?_; rintro e w' ⟨rfl, hg⟩; obtain ⟨x1, rfl⟩ := hg.later; clear hg) | (go_at_call 7; refine (CA.out _).mono ?_; rintro e w' ⟨rfl, hg⟩; obtain ⟨x2, rfl⟩ := hg.later; clear hg))
    go_ret
    exact ⟨rfl, (by repeat (first | exact Grows.refl _ | refine Grows.now ?_ _ | refine Grows.new ?_ _ | refine Grows.drewN ?_ _ | refine Grows.drew ?_ | assumption | (refine Grows.set ?_ (by first | omega | (simp; done) | (simp; omega)) _)))⟩
  | true =>
    rw [hq] at CL
    clear hq
    have C1 := hide (fun (W : World) => nilCounts W)
    have C2 := hide (fun (W : World) => nilGraph W)
    have C3 := hide (fun (W : World) => nilHier W)
    have C4 := hide (fun (W : World) => nilPhase W)
    have C5 := hide (fun (W : World) => nilLoad N A n c W)
    have C6 := hide (fun (W : World) => nilBuild W)
    have C7 := hide (fun (W : World) => nilSet W)
    have C8 := hide (fun (W : World) => nilQuit W)
    have C9 := hide (fun (W : World) => nilReady W)
    have CN := hide (fun (W : World) => stateNameV p W)
    rcases (show p < 0 ∨ p = 0 ∨ p = 1 ∨ p = 2 ∨ p = 3 ∨ p = 4 ∨ 5 ≤ p by omega) with h | h | h | h | h | h | h
    · skip
      have hv : nameV p = .string ⟨#[]⟩ := by unfold nameV; simp [show p ≠ 0 by omega, show p ≠ 1 by omega, show p ≠ 2 by omega, show p ≠ 3 by omega, show p ≠ 4 by omega]
      rw [hv] at CN
      have d1 : decide (0 ≤ p) = false := decide_eq_false (by omega)
      clear h hv
      go_enter Try.func3, Try.ntmps3
      go_wp2_with (first | (go_at_call 6; refine (CL.out _).mono ?_; rintro e w' ⟨rfl, hg⟩; obtain ⟨x1, rfl⟩ := hg.later; clear hg) | (go_at_call 7; refine (CA.out _).mono ?_; rintro e w' ⟨rfl, hg⟩; obtain ⟨x2, rfl⟩ := hg.later; clear hg) | (go_at_call 8; refine (C1.out _).mono ?_; rintro e w' ⟨rfl, rfl⟩) | (go_at_call 9; refine (C2.out _).mono ?_; rintro e w' ⟨rfl, hg⟩; obtain ⟨x3, rfl⟩ := hg.later; clear hg) | (go_at_call 10; refine (C3.out _).mono ?_; rintro e w' ⟨rfl, rfl⟩) | (go_at_call 11; refine (C4.out _).mono ?_; rintro e w' ⟨rfl, rfl⟩) | (go_at_call 12; refine (C5.out _).mono ?_; rintro e w' ⟨rfl, hg⟩; obtain ⟨x5, rfl⟩ := hg.later; clear hg) | (go_at_call 13; refine (C6.out _).mono ?_; rintro e w' ⟨rfl, hg⟩; obtain ⟨x6, rfl⟩ := hg.later; clear hg) | (go_at_call 14; refine (C7.out _).mono ?_; rintro e w' ⟨rfl, hg⟩; obtain ⟨x7, rfl⟩ := hg.later; clear hg) | (go_at_call 15; refine (C8.out _).mono ?_; rintro e w' ⟨rfl, rfl⟩) | (go_at_call 16; refine (C9.out _).mono ?_; rintro e w' ⟨rfl, rfl⟩) | (go_at_call 17; refine (CN.out _).mono ?_; rintro e w' ⟨rfl, hg⟩; obtain ⟨x9, rfl⟩ := hg.later; clear hg))
      go_ret
      exact ⟨rfl, (by repeat (first | exact Grows.refl _ | refine Grows.now ?_ _ | refine Grows.new ?_ _ | refine Grows.drewN ?_ _ | refine Grows.drew ?_ | assumption | (refine Grows.set ?_ (by first | omega | (simp; done) | (simp; omega)) _)))⟩
    · subst h
      have hv : nameV 0 = .string ⟨#[110, 111, 110, 101]⟩ := rfl
      rw [hv] at CN
      clear hv
      go_enter Try.func3, Try.ntmps3
      go_wp2_with (first | (go_at_call 6; refine (CL.out _).mono ?_; rintro e w' ⟨rfl, hg⟩; obtain ⟨x1, rfl⟩ := hg.later; clear hg) | (go_at_call 7; refine (CA.out _).mono ?_; rintro e w' ⟨rfl, hg⟩; obtain ⟨x2, rfl⟩ := hg.later; clear hg) | (go_at_call 8; refine (C1.out _).mono ?_; rintro e w' ⟨rfl, rfl⟩) | (go_at_call 9; refine (C2.out _).mono ?_; rintro e w' ⟨rfl, hg⟩; obtain ⟨x3, rfl⟩ := hg.later; clear hg) | (go_at_call 10; refine (C3.out _).mono ?_; rintro e w' ⟨rfl, rfl⟩) | (go_at_call 11; refine (C4.out _).mono ?_; rintro e w' ⟨rfl, rfl⟩) | (go_at_call 12; refine (C5.out _).mono ?_; rintro e w' ⟨rfl, hg⟩; obtain ⟨x5, rfl⟩ := hg.later; clear hg) | (go_at_call 13; refine (C6.out _).mono ?_; rintro e w' ⟨rfl, hg⟩; obtain ⟨x6, rfl⟩ := hg.later; clear hg) | (go_at_call 14; refine (C7.out _).mono ?_; rintro e w' ⟨rfl, hg⟩; obtain ⟨x7, rfl⟩ := hg.later; clear hg) | (go_at_call 15; refine (C8.out _).mono ?_; rintro e w' ⟨rfl, rfl⟩) | (go_at_call 16; refine (C9.out _).mono ?_; rintro e w' ⟨rfl, rfl⟩) | (go_at_call 17; refine (CN.out _).mono ?_; rintro e w' ⟨rfl, hg⟩; obtain ⟨x9, rfl⟩ := hg.later; clear hg))
      go_ret
      exact ⟨rfl, (by repeat (first | exact Grows.refl _ | refine Grows.now ?_ _ | refine Grows.new ?_ _ | refine Grows.drewN ?_ _ | refine Grows.drew ?_ | assumption | (refine Grows.set ?_ (by first | omega | (simp; done) | (simp; omega)) _)))⟩
    · subst h
      have hv : nameV 1 = .string ⟨#[108, 111, 97, 100, 101, 100]⟩ := rfl
      rw [hv] at CN
      clear hv
      go_enter Try.func3, Try.ntmps3
      go_wp2_with (first | (go_at_call 6; refine (CL.out _).mono ?_; rintro e w' ⟨rfl, hg⟩; obtain ⟨x1, rfl⟩ := hg.later; clear hg) | (go_at_call 7; refine (CA.out _).mono ?_; rintro e w' ⟨rfl, hg⟩; obtain ⟨x2, rfl⟩ := hg.later; clear hg) | (go_at_call 8; refine (C1.out _).mono ?_; rintro e w' ⟨rfl, rfl⟩) | (go_at_call 9; refine (C2.out _).mono ?_; rintro e w' ⟨rfl, hg⟩; obtain ⟨x3, rfl⟩ := hg.later; clear hg) | (go_at_call 10; refine (C3.out _).mono ?_; rintro e w' ⟨rfl, rfl⟩) | (go_at_call 11; refine (C4.out _).mono ?_; rintro e w' ⟨rfl, rfl⟩) | (go_at_call 12; refine (C5.out _).mono ?_; rintro e w' ⟨rfl, hg⟩; obtain ⟨x5, rfl⟩ := hg.later; clear hg) | (go_at_call 13; refine (C6.out _).mono ?_; rintro e w' ⟨rfl, hg⟩; obtain ⟨x6, rfl⟩ := hg.later; clear hg) | (go_at_call 14; refine (C7.out _).mono ?_; rintro e w' ⟨rfl, hg⟩; obtain ⟨x7, rfl⟩ := hg.later; clear hg) | (go_at_call 15; refine (C8.out _).mono ?_; rintro e w' ⟨rfl, rfl⟩) | (go_at_call 16; refine (C9.out _).mono ?_; rintro e w' ⟨rfl, rfl⟩) | (go_at_call 17; refine (CN.out _).mono ?_; rintro e w' ⟨rfl, hg⟩; obtain ⟨x9, rfl⟩ := hg.later; clear hg))
      go_ret
      exact ⟨rfl, (by repeat (first | exact Grows.refl _ | refine Grows.now ?_ _ | refine Grows.new ?_ _ | refine Grows.drewN ?_ _ | refine Grows.drew ?_ | assumption | (refine Grows.set ?_ (by first | omega | (simp; done) | (simp; omega)) _)))⟩
    · subst h
      have hv : nameV 2 = .string ⟨#[98, 117, 105, 108, 116]⟩ := rfl
      rw [hv] at CN
      clear hv
      go_enter Try.func3, Try.ntmps3
      go_wp2_with (first | (go_at_call 6; refine (CL.out _).mono ?_; rintro e w' ⟨rfl, hg⟩; obtain ⟨x1, rfl⟩ := hg.later; clear hg) | (go_at_call 7; refine (CA.out _).mono ?_; rintro e w' ⟨rfl, hg⟩; obtain ⟨x2, rfl⟩ := hg.later; clear hg) | (go_at_call 8; refine (C1.out _).mono ?_; rintro e w' ⟨rfl, rfl⟩) | (go_at_call 9; refine (C2.out _).mono ?_; rintro e w' ⟨rfl, hg⟩; obtain ⟨x3, rfl⟩ := hg.later; clear hg) | (go_at_call 10; refine (C3.out _).mono ?_; rintro e w' ⟨rfl, rfl⟩) | (go_at_call 11; refine (C4.out _).mono ?_; rintro e w' ⟨rfl, rfl⟩) | (go_at_call 12; refine (C5.out _).mono ?_; rintro e w' ⟨rfl, hg⟩; obtain ⟨x5, rfl⟩ := hg.later; clear hg) | (go_at_call 13; refine (C6.out _).mono ?_; rintro e w' ⟨rfl, hg⟩; obtain ⟨x6, rfl⟩ := hg.later; clear hg) | (go_at_call 14; refine (C7.out _).mono ?_; rintro e w' ⟨rfl, hg⟩; obtain ⟨x7, rfl⟩ := hg.later; clear hg) | (go_at_call 15; refine (C8.out _).mono ?_; rintro e w' ⟨rfl, rfl⟩) | (go_at_call 16; refine (C9.out _).mono ?_; rintro e w' ⟨rfl, rfl⟩) | (go_at_call 17; refine (CN.out _).mono ?_; rintro e w' ⟨rfl, hg⟩; obtain ⟨x9, rfl⟩ := hg.later; clear hg))
      go_ret
      exact ⟨rfl, (by repeat (first | exact Grows.refl _ | refine Grows.now ?_ _ | refine Grows.new ?_ _ | refine Grows.drewN ?_ _ | refine Grows.drew ?_ | assumption | (refine Grows.set ?_ (by first | omega | (simp; done) | (simp; omega)) _)))⟩
    · subst h
      have hv : nameV 3 = .string ⟨#[115, 116, 97, 108, 101]⟩ := rfl
      rw [hv] at CN
      clear hv
      go_enter Try.func3, Try.ntmps3
      go_wp2_with (first | (go_at_call 6; refine (CL.out _).mono ?_; rintro e w' ⟨rfl, hg⟩; obtain ⟨x1, rfl⟩ := hg.later; clear hg) | (go_at_call 7; refine (CA.out _).mono ?_; rintro e w' ⟨rfl, hg⟩; obtain ⟨x2, rfl⟩ := hg.later; clear hg) | (go_at_call 8; refine (C1.out _).mono ?_; rintro e w' ⟨rfl, rfl⟩) | (go_at_call 9; refine (C2.out _).mono ?_; rintro e w' ⟨rfl, hg⟩; obtain ⟨x3, rfl⟩ := hg.later; clear hg) | (go_at_call 10; refine (C3.out _).mono ?_; rintro e w' ⟨rfl, rfl⟩) | (go_at_call 11; refine (C4.out _).mono ?_; rintro e w' ⟨rfl, rfl⟩) | (go_at_call 12; refine (C5.out _).mono ?_; rintro e w' ⟨rfl, hg⟩; obtain ⟨x5, rfl⟩ := hg.later; clear hg) | (go_at_call 13; refine (C6.out _).mono ?_; rintro e w' ⟨rfl, hg⟩; obtain ⟨x6, rfl⟩ := hg.later; clear hg) | (go_at_call 14; refine (C7.out _).mono ?_; rintro e w' ⟨rfl, hg⟩; obtain ⟨x7, rfl⟩ := hg.later; clear hg) | (go_at_call 15; refine (C8.out _).mono ?_; rintro e w' ⟨rfl, rfl⟩) | (go_at_call 16; refine (C9.out _).mono ?_; rintro e w' ⟨rfl, rfl⟩) | (go_at_call 17; refine (CN.out _).mono ?_; rintro e w' ⟨rfl, hg⟩; obtain ⟨x9, rfl⟩ := hg.later; clear hg))
      go_ret
      exact ⟨rfl, (by repeat (first | exact Grows.refl _ | refine Grows.now ?_ _ | refine Grows.new ?_ _ | refine Grows.drewN ?_ _ | refine Grows.drew ?_ | assumption | (refine Grows.set ?_ (by first | omega | (simp; done) | (simp; omega)) _)))⟩
    · subst h
      have hv : nameV 4 = .string ⟨#[111, 118, 101, 114]⟩ := rfl
      rw [hv] at CN
      clear hv
      go_enter Try.func3, Try.ntmps3
      go_wp2_with (first | (go_at_call 6; refine (CL.out _).mono ?_; rintro e w' ⟨rfl, hg⟩; obtain ⟨x1, rfl⟩ := hg.later; clear hg) | (go_at_call 7; refine (CA.out _).mono ?_; rintro e w' ⟨rfl, hg⟩; obtain ⟨x2, rfl⟩ := hg.later; clear hg) | (go_at_call 8; refine (C1.out _).mono ?_; rintro e w' ⟨rfl, rfl⟩) | (go_at_call 9; refine (C2.out _).mono ?_; rintro e w' ⟨rfl, hg⟩; obtain ⟨x3, rfl⟩ := hg.later; clear hg) | (go_at_call 10; refine (C3.out _).mono ?_; rintro e w' ⟨rfl, rfl⟩) | (go_at_call 11; refine (C4.out _).mono ?_; rintro e w' ⟨rfl, rfl⟩) | (go_at_call 12; refine (C5.out _).mono ?_; rintro e w' ⟨rfl, hg⟩; obtain ⟨x5, rfl⟩ := hg.later; clear hg) | (go_at_call 13; refine (C6.out _).mono ?_; rintro e w' ⟨rfl, hg⟩; obtain ⟨x6, rfl⟩ := hg.later; clear hg) | (go_at_call 14; refine (C7.out _).mono ?_; rintro e w' ⟨rfl, hg⟩; obtain ⟨x7, rfl⟩ := hg.later; clear hg) | (go_at_call 15; refine (C8.out _).mono ?_; rintro e w' ⟨rfl, rfl⟩) | (go_at_call 16; refine (C9.out _).mono ?_; rintro e w' ⟨rfl, rfl⟩) | (go_at_call 17; refine (CN.out _).mono ?_; rintro e w' ⟨rfl, hg⟩; obtain ⟨x9, rfl⟩ := hg.later; clear hg))
      go_ret
      exact ⟨rfl, (by repeat (first | exact Grows.refl _ | refine Grows.now ?_ _ | refine Grows.new ?_ _ | refine Grows.drewN ?_ _ | refine Grows.drew ?_ | assumption | (refine Grows.set ?_ (by first | omega | (simp; done) | (simp; omega)) _)))⟩
    · skip
      have hv : nameV p = .string ⟨#[]⟩ := by unfold nameV; simp [show p ≠ 0 by omega, show p ≠ 1 by omega, show p ≠ 2 by omega, show p ≠ 3 by omega, show p ≠ 4 by omega]
      rw [hv] at CN
      have d1 : decide (0 ≤ p) = true := decide_eq_true (by omega)
      have d2 : decide (p < 5) = false := decide_eq_false (by omega)
      clear h hv
      go_enter Try.func3, Try.ntmps3
      go_wp2_with (first | (go_at_call 6; refine (CL.out _).mono ?_; rintro e w' ⟨rfl, hg⟩; obtain ⟨x1, rfl⟩ := hg.later; clear hg) | (go_at_call 7; refine (CA.out _).mono ?_; rintro e w' ⟨rfl, hg⟩; obtain ⟨x2, rfl⟩ := hg.later; clear hg) | (go_at_call 8; refine (C1.out _).mono ?_; rintro e w' ⟨rfl, rfl⟩) | (go_at_call 9; refine (C2.out _).mono ?_; rintro e w' ⟨rfl, hg⟩; obtain ⟨x3, rfl⟩ := hg.later; clear hg) | (go_at_call 10; refine (C3.out _).mono ?_; rintro e w' ⟨rfl, rfl⟩) | (go_at_call 11; refine (C4.out _).mono ?_; rintro e w' ⟨rfl, rfl⟩) | (go_at_call 12; refine (C5.out _).mono ?_; rintro e w' ⟨rfl, hg⟩; obtain ⟨x5, rfl⟩ := hg.later; clear hg) | (go_at_call 13; refine (C6.out _).mono ?_; rintro e w' ⟨rfl, hg⟩; obtain ⟨x6, rfl⟩ := hg.later; clear hg) | (go_at_call 14; refine (C7.out _).mono ?_; rintro e w' ⟨rfl, hg⟩; obtain ⟨x7, rfl⟩ := hg.later; clear hg) | (go_at_call 15; refine (C8.out _).mono ?_; rintro e w' ⟨rfl, rfl⟩) | (go_at_call 16; refine (C9.out _).mono ?_; rintro e w' ⟨rfl, rfl⟩) | (go_at_call 17; refine (CN.out _).mono ?_; rintro e w' ⟨rfl, hg⟩; obtain ⟨x9, rfl⟩ := hg.later; clear hg))
      go_ret
      exact ⟨rfl, (by repeat (first | exact Grows.refl _ | refine Grows.now ?_ _ | refine Grows.new ?_ _ | refine Grows.drewN ?_ _ | refine Grows.drew ?_ | assumption | (refine Grows.set ?_ (by first | omega | (simp; done) | (simp; omega)) _)))⟩
end Go.Proofs.Ytlgojmniidfgpaa

/- The law StateNames: for every input it returns true, and each argument reads as before. No condition. -/
namespace Go.Proofs.Ytlgojmniidfgpaa.lawStateNames
open Go Go.ChangeShapes Go.WideShapes Go.ChangeAt Go.RowKit Go.Proofs.Ytlgojmniidfgpaa

theorem own : ownKnob Try.prog.godebug = none := by kernel_rfl
theorem laidOut : laidOutB Try.prog = true := by kernel_rfl

set_option maxRecDepth 100000 in
theorem lifted (os : Os) (started : os.Started) (H : Type) (enc : TypeId × Value → H) :
    ReturnsInHanded {} Try.checked os 3 .any (Rows.stateNamesSpec.pre6 enc Try.prog Try.f3 Rows.stateNamesRow.domain false) (Rows.stateNamesSpec.post enc Try.prog Try.f3 false true false false) := by
  refine returnsInHanded_of_change (C := Try.checked) own started (by kernel_rfl) Try.func3
    (ChangeSpec.witness6 (enc := enc) (C := Try.checked) false ⟨#[], #[.int .i64 0, .agg #[.int .i64 0, .slice none 0 0]], []⟩ 8 (by kernel_rfl) (by kernel_rfl) (by kernel_rfl) (by kernel_rfl)) ?_
  intro W base args ds gs before hval0 hW hcnd _
  have hval : ∀ (j : Nat) t v, Try.f3.params[j]? = some t → args[j]? = some v → Value.okWide Try.prog W .any base t v := hval0
  have hW' := hW
  obtain ⟨p, q, hA0, hV, rfl, hfz, hnd⟩ := hW
  have hA : DataW.TrodAll enc Try.prog W 0 (fun _ => true) true Try.f3.params.toList args.toList ds p := hA0
  rw [Try.params3] at hA hval
  obtain ⟨v0, vs0, d0, ds0, p0, q0, hargs, rfl, rfl, h0, r0⟩ := trodAll_cons hA
  obtain ⟨v1, vs1, d1, ds1, p1, q1, rfl, rfl, rfl, h1, r1⟩ := trodAll_cons r0
  obtain ⟨rfl, rfl, rfl⟩ := trodAll_nil r1
  obtain rfl : args = #[v0, v1] := by cases args; simp_all
  obtain ⟨rfl, rfl⟩ := trodVars_none hV
  have k0 := h0
  have lt0 : ∀ x ∈ p0, x.block < W.heap.size := by obtain ⟨m, hm⟩ := k0; exact DataW.trod_lt m _ _ _ hm
  obtain ⟨a0, rfl, w0⟩ := open_i64 Try.underlying3 (hval 0 3 v0 rfl rfl) h0
  have k1 := h1
  have lt1 : ∀ x ∈ p1, x.block < W.heap.size := by obtain ⟨m, hm⟩ := k1; exact DataW.trod_lt m _ _ _ hm
  obtain ⟨a1, A1, n1, c1, z1, rfl, x1, l1, w1, u1⟩ := open_graph Try.underlying24 Try.underlying3 Try.underlying22 Try.underlying82 Try.underlying3 Try.underlying3 Try.underlying41 ⟨rfl, rfl, rfl⟩ ⟨by kernel_rfl, by kernel_rfl, by kernel_rfl⟩ (by kernel_rfl) (by kernel_rfl) (by kernel_rfl) (hval 1 24 v1 rfl rfl) h1
  clear hA0 hval0
  refine (stateNamesW a0 a1 A1 n1 c1 z1 W w0 x1 l1 w1 u1).mono fun e W' ⟨he, bel⟩ => ?_
  subst he
  exact ⟨_, rfl, _, _, _, [], _, [], hW', trodAll_mk1 (shut_bool Try.underlying4 _), (trodAll_cons_mk (Below.trod laidOut (by kernel_rfl) (of_decide_eq_true (by kernel_rfl)) k0 bel lt0) (trodAll_cons_mk (Below.trod laidOut (by kernel_rfl) (of_decide_eq_true (by kernel_rfl)) k1 bel lt1) trodAll_mk0)), rfl, Below.frame bel _, fun h => by cases h⟩

theorem over : Rows.stateNamesRow.holds Try.pinned (OpenSpec.ofChange Rows.stateNamesSpec) :=
  OpenClaim.holds_of_wide 3 Try.f3 rfl rfl rfl rfl rfl rfl rfl ⟨rfl, rfl, rfl, rfl, rfl⟩ rfl rfl rfl rfl rfl (by kernel_rfl) Try.func3 (by kernel_rfl)
    (of_decide_eq_true (by kernel_rfl)) (by unfold Func.isWrapper; first | (rw [if_pos (by decide +kernel)]; kernel_rfl) | (rw [if_neg (by decide +kernel)]; exact ⟨rfl, rfl⟩))
    (fun os started H enc _ => lifted os started H enc)

end Go.Proofs.Ytlgojmniidfgpaa.lawStateNames
namespace Go.Proofs.Ytlgojmniidfgpaa
/-- The statement. -/
theorem stateNames_proved : Rows.StateNamesSaid := lawStateNames.over
#print axioms stateNames_proved
end Go.Proofs.Ytlgojmniidfgpaa
