/- The law LocalTests: for every input it returns true, and each argument reads as before. No condition. -/
import Derived.Test.YtiljgkaffgclgaaGreatQLocalTests22
import Derived.Test.YtiljgkaffgclgaaGreatQLocalTests13
import Derived.Test.YtiljgkaffgclgaaGreatQLocalTests15
/- The law LocalTests, walked: whether any way is the shortest one near any places, and where it first is not, at all. -/
namespace Go.Proofs.YtiljgkaffgclgaaGreat
open Go Go.RowKit
set_option maxRecDepth 20000 in
set_option maxHeartbeats 4000000 in
theorem loTests1 (N : Int) (A : Option Addr) (c : Nat) (E : List Edg) (s : Int) (B : Option Addr) (n d : Nat) (z a b base : Int) (t : Bool) (b6 b7 b8 b10 b11 : Nat) (w : World) (k6 : Holds w ⟨b6, 0, none⟩ (.int .i64 N)) (k6' : Holds w ⟨b6, 1, none⟩ (.slice A E.length c)) (k7 : Holds w ⟨b7, 0, none⟩ (.int .i64 s)) (k8 : Holds w ⟨b8, 0, none⟩ (.slice B n d)) (k10 : Holds w ⟨b10, 0, none⟩ (.int .u64 a)) (k10' : Holds w ⟨b10, 1, none⟩ (.int .u64 b)) (k11 : Holds w ⟨b11, 0, none⟩ (.int .u64 base))
    (ct : ∀ W, Grows w W → Calls Tryz.prog 10 #[.agg #[.int .i64 N, .slice A E.length c], .int .i64 s, .slice B n d, .int .i64 z, .agg #[.int .u64 a, .int .u64 b], .int .u64 base] W fun e w' => e = .returned (.bool t) ∧ Grows W w') :
    Calls Tryz.prog 33 #[.int .i64 z, .pointer (some ⟨b6, 0, none⟩), .pointer (some ⟨b7, 0, none⟩), .pointer (some ⟨b8, 0, none⟩), .pointer (some ⟨b10, 0, none⟩), .pointer (some ⟨b11, 0, none⟩)] w fun e w' => e = .returned (.bool (!t)) ∧ Grows w w' := by
  have CT := hide ct
  clear ct
  go_enter Tryz.func33, Tryz.ntmps33
  go_wp2_with (go_at_call 10; refine (CT.out _ (by repeat (first | exact Grows.refl _ | refine Grows.now ?_ _ | refine Grows.new ?_ _ | refine Grows.drewN ?_ _ | refine Grows.drew ?_ | assumption | (refine Grows.set ?_ (by first | omega | (simp; done) | (simp; omega)) _)))).mono ?_; rintro e w' ⟨rfl, hg⟩; obtain ⟨x1, rfl⟩ := hg.later; clear hg)
  go_ret
  exact ⟨rfl, (by repeat (first | exact Grows.refl _ | refine Grows.now ?_ _ | refine Grows.new ?_ _ | refine Grows.drewN ?_ _ | refine Grows.drew ?_ | assumption | (refine Grows.set ?_ (by first | omega | (simp; done) | (simp; omega)) _)))⟩
set_option maxRecDepth 20000 in
set_option maxHeartbeats 4000000 in
theorem loTestsV (N : Int) (A : Option Addr) (c : Nat) (E : List Edg) (s : Int) (B : Option Addr) (d : Nat) (l : List Int) (C : Option Addr) (n dc : Nat) (zs : List Int) (a b base : Int) (isv : Bool) (ts : Int → Bool) (w : World) (h : Rd w A 3 E.length (esCells E)) (hE : E.length ≤ 1000000) (h2 : Rd w B 1 l.length (l.map (.int .i64))) (hl : l.length ≤ 1000) (h3 : Rd w C 1 n (zs.map (.int .i64))) (hn : n ≤ 1000)
    (hi : isB N E s l = isv) (ct : ∀ z W, Grows w W → Calls Tryz.prog 10 #[.agg #[.int .i64 N, .slice A E.length c], .int .i64 s, .slice B l.length d, .int .i64 z, .agg #[.int .u64 a, .int .u64 b], .int .u64 base] W fun e w' => e = .returned (.bool (ts z)) ∧ Grows W w') :
    Calls Tryz.prog 13 #[.agg #[.int .i64 N, .slice A E.length c], .int .i64 s, .slice B l.length d, .slice C n dc, .agg #[.int .u64 a, .int .u64 b], .int .u64 base] w fun e w' => e = .returned (.bool (isv && (rrB a b && zs.all ts))) ∧ Grows w w' := by
  have C1 := hide (fun (W : World) (g : Grows w W) => pNodes N A E.length c E s B l.length d l W (h.grows g) hE (h2.grows g) (by omega))
  rw [hi] at C1
  unfold GiveIB at C1
  have CR := hide (fun (W : World) => ratioRight a b W)
  have CT := hide ct
  have H3 := hide h3
  have HV : Hid ((!(zs.any fun z => !ts z)) = zs.all ts) := by
    show _ = _
    rw [← List.not_all_eq_any_not, Bool.not_not]
  clear h h2 h3 ct hi
  generalize zs.all ts = al at *
  generalize rrB a b = rr at *
  go_enter Tryz.func13, Tryz.ntmps13
  go_wp2_with fail
  refine (C1.out _ (by repeat (first | exact Grows.refl _ | refine Grows.now ?_ _ | refine Grows.new ?_ _ | refine Grows.drewN ?_ _ | refine Grows.drew ?_ | assumption | (refine Grows.set ?_ (by first | omega | (simp; done) | (simp; omega)) _)))).mono ?_; rintro e w' ⟨A1, c1, rfl, hr1, hg⟩; obtain ⟨x1, rfl⟩ := hg.later; clear hg hr1
  have k6 : Holds x1.now ⟨w.heap.size, 0, none⟩ (.int .i64 N) := inferInstance
  have k6' : Holds x1.now ⟨w.heap.size, 1, none⟩ (.slice A E.length c) := inferInstance
  have k7 : Holds x1.now ⟨w.heap.size + 1, 0, none⟩ (.int .i64 s) := inferInstance
  have k8 : Holds x1.now ⟨w.heap.size + 1 + 1, 0, none⟩ (.slice B l.length d) := inferInstance
  have hs3 : (((w.alloc (.cells #[.int .i64 N, .slice A E.length c] 24)).alloc (.cells #[.int .i64 s] 3)).alloc (.cells #[.slice B l.length d] 25)).heap.size = w.heap.size + 1 + 1 + 1 := by simp
  have hs4 : ((((w.alloc (.cells #[.int .i64 N, .slice A E.length c] 24)).alloc (.cells #[.int .i64 s] 3)).alloc (.cells #[.slice B l.length d] 25)).alloc (.cells #[.int .u64 a, .int .u64 b] 28)).heap.size = w.heap.size + 1 + 1 + 1 + 1 := by simp
  have k10A : Arr x1.now (w.heap.size + 1 + 1 + 1) 28 [.int .u64 a, .int .u64 b] := by
    rw [← hs3]
    exact Arr.grow (Arr.grow (Arr.make _ _ _) ((Grows.refl _).new _)) x1.grows
  have k11A : Arr x1.now (w.heap.size + 1 + 1 + 1 + 1) 26 [.int .u64 base] := by
    rw [← hs4]
    exact Arr.grow (Arr.make _ _ _) x1.grows
  clear hs3 hs4
  have k10 : Holds x1.now ⟨w.heap.size + 1 + 1 + 1, 0, none⟩ (.int .u64 a) := inferInstance
  have k10' : Holds x1.now ⟨w.heap.size + 1 + 1 + 1, 1, none⟩ (.int .u64 b) := inferInstance
  have k11 : Holds x1.now ⟨w.heap.size + 1 + 1 + 1 + 1, 0, none⟩ (.int .u64 base) := inferInstance
  have hgx : Grows w x1.now := (by repeat (first | exact Grows.refl _ | refine Grows.now ?_ _ | refine Grows.new ?_ _ | refine Grows.drewN ?_ _ | refine Grows.drew ?_ | assumption | (refine Grows.set ?_ (by first | omega | (simp; done) | (simp; omega)) _)))
  have C2 := hide (fun (W : World) (g : Grows x1.now W) => show Calls Tryz.prog 35 #[.slice C n dc, .func (.func 33) #[] #[.pointer (some ⟨w.heap.size, 0, none⟩), .pointer (some ⟨w.heap.size + 1, 0, none⟩), .pointer (some ⟨w.heap.size + 1 + 1, 0, none⟩), .pointer (some ⟨w.heap.size + 1 + 1 + 1, 0, none⟩), .pointer (some ⟨w.heap.size + 1 + 1 + 1 + 1, 0, none⟩)]] W fun e w' => e = .returned (.bool (zs.any fun z => !ts z)) ∧ Grows W w' from
    containsI C n dc zs 33 #[.pointer (some ⟨w.heap.size, 0, none⟩), .pointer (some ⟨w.heap.size + 1, 0, none⟩), .pointer (some ⟨w.heap.size + 1 + 1, 0, none⟩), .pointer (some ⟨w.heap.size + 1 + 1 + 1, 0, none⟩), .pointer (some ⟨w.heap.size + 1 + 1 + 1 + 1, 0, none⟩)] (fun z => !ts z) W (H3.out.grows (hgx.trans g)) (by omega) (fun args W => by kernel_rfl) (fun W2 g2 e =>
      loTests1 N A c E s B l.length d e a b base (ts e) _ _ _ _ _ W2 ⟨(g.trans g2).keeps k6.cell⟩ ⟨(g.trans g2).keeps k6'.cell⟩ ⟨(g.trans g2).keeps k7.cell⟩ ⟨(g.trans g2).keeps k8.cell⟩ ⟨(g.trans g2).keeps k10.cell⟩ ⟨(g.trans g2).keeps k10'.cell⟩ ⟨(g.trans g2).keeps k11.cell⟩ (fun W3 g3 => CT.out e W3 (hgx.trans (g.trans (g2.trans g3))))))
  clear hgx CT
  generalize (zs.any fun z => !ts z) = an at *
  cases isv with
  | false =>
    go_wp2_with fail
    go_ret
    exact ⟨rfl, (by repeat (first | exact Grows.refl _ | refine Grows.now ?_ _ | refine Grows.new ?_ _ | refine Grows.drewN ?_ _ | refine Grows.drew ?_ | assumption | (refine Grows.set ?_ (by first | omega | (simp; done) | (simp; omega)) _)))⟩
  | true =>
    go_wp2_with fail
    refine (CR.out _).mono ?_; rintro e w' ⟨rfl, hg⟩; obtain ⟨x2, rfl⟩ := hg.later; clear hg
    cases rr with
    | false =>
      go_wp2_with fail
      go_ret
      exact ⟨rfl, (by repeat (first | exact Grows.refl _ | refine Grows.now ?_ _ | refine Grows.new ?_ _ | refine Grows.drewN ?_ _ | refine Grows.drew ?_ | assumption | (refine Grows.set ?_ (by first | omega | (simp; done) | (simp; omega)) _)))⟩
    | true =>
      go_wp2_with fail
      refine (C2.out _ (by repeat (first | exact Grows.refl _ | refine Grows.now ?_ _ | refine Grows.new ?_ _ | refine Grows.drewN ?_ _ | refine Grows.drew ?_ | assumption | (refine Grows.set ?_ (by first | omega | (simp; done) | (simp; omega)) _)))).mono ?_; rintro e w' ⟨rfl, hg⟩; obtain ⟨x3, rfl⟩ := hg.later; clear hg
      go_wp2_with fail
      go_ret
      exact ⟨by rw [← HV.out]; simp, (by repeat (first | exact Grows.refl _ | refine Grows.now ?_ _ | refine Grows.new ?_ _ | refine Grows.drewN ?_ _ | refine Grows.drew ?_ | assumption | (refine Grows.set ?_ (by first | omega | (simp; done) | (simp; omega)) _)))⟩
set_option maxRecDepth 40000 in
set_option maxHeartbeats 8000000 in
theorem localTestsW (N : Int) (A : Option Addr) (n c : Nat) (E : List Edg) (s : Int) (B : Option Addr) (m d : Nat) (l : List Int) (C : Option Addr) (q dc : Nat) (zs : List Int) (a b base : Int) (w : World)
    (_ : I64 N) (_ : n ≤ c) (h : Rd w A 3 n (esCells E)) (_ : ∀ k, k < n → edgOk (ge E k)) (_ : -9223372036854775808 ≤ s ∧ s < 9223372036854775808) (_ : m ≤ d) (h2 : Rd w B 1 m (l.map (.int .i64))) (_ : ∀ z ∈ l, (Lit.int .i64 z).wf = true) (_ : q ≤ dc) (h3 : Rd w C 1 q (zs.map (.int .i64))) (_ : ∀ z ∈ zs, (Lit.int .i64 z).wf = true) (ua : U64 a) (ub : U64 b) (ubase : U64 base) :
    Calls Tryz.prog 3 #[.agg #[.int .i64 N, .slice A n c], .int .i64 s, .slice B m d, .slice C q dc, .agg #[.int .u64 a, .int .u64 b], .int .u64 base] w fun e w' => e = .returned (.bool true) ∧ Grows w w' := by
  obtain rfl : E.length = n := h.elen
  obtain rfl : l.length = m := by simpa using h2.len
  obtain rfl : zs.length = q := by simpa using h3.len
  have CL := hide (fun (W : World) => lLight N A E.length c W)
  have short : ∀ (hsh : (lightG N E.length = false) ∨ (lightG N E.length = true ∧ ((decide ((20 : Int) < N) = true ∧ decide (N ≤ 4096) = true) ∨ (((decide ((20 : Int) < N) = true ∧ decide (N ≤ 4096) = false) ∨ decide ((20 : Int) < N) = false) ∧ (decide ((20 : Int) < (l.length : Int)) = true ∨ (decide ((20 : Int) < (l.length : Int)) = false ∧ decide ((20 : Int) < (zs.length : Int)) = true)))))),
      Calls Tryz.prog 3 #[.agg #[.int .i64 N, .slice A E.length c], .int .i64 s, .slice B l.length d, .slice C zs.length dc, .agg #[.int .u64 a, .int .u64 b], .int .u64 base] w fun e w' => e = .returned (.bool true) ∧ Grows w w' := by
    intro hsh
    clear h h2 h3 ua ub ubase
    rcases hsh with hq | ⟨hq, ⟨e1, e2⟩ | ⟨⟨e1, e2⟩ | e1, e3 | ⟨e3, e4⟩⟩⟩
    all_goals (
      rw [hq] at CL
      clear hq
      go_enter Tryz.func3, Tryz.ntmps3
      go_wp2_with (first | (go_at_call 5; refine (CL.out _).mono ?_; rintro e w' ⟨rfl, hg⟩; (first | obtain ⟨x, rfl⟩ := Grows.later2 hg | obtain ⟨x, rfl⟩ := Grows.later hg); clear hg) | (go_at_call 6; refine (alive27 _).mono ?_; rintro e w' ⟨rfl, hg⟩; (first | obtain ⟨x, rfl⟩ := Grows.later2 hg | obtain ⟨x, rfl⟩ := Grows.later hg); clear hg))
      go_ret
      exact ⟨rfl, (by repeat (first | exact Grows.refl _ | refine Grows.now ?_ _ | refine Grows.new ?_ _ | refine Grows.drewN ?_ _ | refine Grows.drew ?_ | assumption | (refine Grows.set ?_ (by first | omega | (simp; done) | (simp; omega)) _)))⟩)
  by_cases hbig : lightG N E.length = true ∧ ¬ (20 < N ∧ N ≤ 4096) ∧ l.length ≤ 20 ∧ zs.length ≤ 20
  · obtain ⟨hq, hN, hl, hz⟩ := hbig
    clear short
    rw [hq] at CL
    have hE : E.length ≤ 1000000 := by
      unfold lightG at hq
      simp at hq
      omega
    have hNd : (decide ((20 : Int) < N) = true ∧ decide (N ≤ 4096) = false) ∨ decide ((20 : Int) < N) = false := by
      by_cases h1 : 20 < N
      · exact .inl ⟨decide_eq_true h1, decide_eq_false (fun h2 => hN ⟨h1, h2⟩)⟩
      · exact .inr (decide_eq_false h1)
    have dl : decide ((20 : Int) < (l.length : Int)) = false := decide_eq_false (by omega)
    have dz : decide ((20 : Int) < (zs.length : Int)) = false := decide_eq_false (by omega)
    -- what all functions tell
    obtain ⟨isv, his⟩ : ∃ isv, isB N E s l = isv := ⟨_, rfl⟩
    obtain ⟨ts, wa, wb, wt, hct, hrt, hlw, hrw⟩ : ∃ (ts : Int → Bool) (wa wb : Int) (wt : Bool),
        (∀ z W, Grows w W → Calls Tryz.prog 10 #[.agg #[.int .i64 N, .slice A E.length c], .int .i64 s, .slice B l.length d, .int .i64 z, .agg #[.int .u64 a, .int .u64 b], .int .u64 base] W fun e w' => e = .returned (.bool (ts z)) ∧ Grows W w') ∧
        (∀ z W, Grows w W → Calls Tryz.prog 9 #[.agg #[.int .i64 N, .slice A E.length c], .int .i64 s, .slice B l.length d, .int .i64 z, .agg #[.int .u64 a, .int .u64 b], .int .u64 base] W fun e w' => e = .returned (.bool (ts z)) ∧ Grows W w') ∧
        (∀ W, Grows w W → Calls Tryz.prog 11 #[.agg #[.int .i64 N, .slice A E.length c], .int .i64 s, .slice B l.length d] W fun e w' => e = .returned (.tuple #[.int .i64 wa, .int .i64 wb, .bool wt]) ∧ Grows W w') ∧
        (∀ W, Grows w W → Calls Tryz.prog 12 #[.agg #[.int .i64 N, .slice A E.length c], .int .i64 s, .slice B l.length d] W fun e w' => e = .returned (.tuple #[.int .i64 wa, .int .i64 wb, .bool wt]) ∧ Grows W w') := by
      cases isv with
      | true =>
        obtain ⟨NN, rfl⟩ : ∃ NN : Nat, N = NN := ⟨N.toNat, by have := right_in (isB_right his).1; omega⟩
        obtain ⟨F, T, hM⟩ := mks_any (isB_right his).1
        obtain ⟨wa, wb, wt, hw⟩ := worst_one E F s l
        refine ⟨fun z => tsB (NN : Int) E F s l z a b base, wa, wb, wt, fun z W g => ?_, fun z W g => ?_, fun W g => ?_, fun W g => ?_⟩
        · exact loTest NN A c E F T hM s B d l z a b base W (h.grows g) (h2.grows g) (by omega) hE his ubase
        · exact r27Test NN A c E F T hM s B d l z a b base W (h.grows g) (h2.grows g) (by omega) hE his ua ub ubase
        · exact (loWorst NN A c E F T hM s B d l W (h.grows g) (h2.grows g) (by omega) hE his).mono (fun e w' hh => hw W e w' hh)
        · exact (r27Worst NN A c E F T hM s B d l W (h.grows g) (h2.grows g) (by omega) hE his).mono (fun e w' hh => hw W e w' hh)
      | false =>
        refine ⟨fun _ => false, 0, 0, false, fun z W g => ?_, fun z W g => ?_, fun W g => ?_, fun W g => ?_⟩
        · exact loTestNo2 N A c E s B d l z a b base W (h.grows g) (h2.grows g) (by omega) hE his
        · exact r27TestNo N A c E s B d l z a b base W (h.grows g) (h2.grows g) (by omega) hE his
        · exact loWorstNo N A c E s B d l W (h.grows g) (h2.grows g) (by omega) hE his
        · exact r27WorstNo N A c E s B d l W (h.grows g) (h2.grows g) (by omega) hE his
    have CN := hide (fun (W : World) (g : Grows w W) => r8Nodes N A E.length c E s B l.length d l W (h.grows g) hE (h2.grows g) (by omega))
    rw [his] at CN
    unfold GiveIB at CN
    have CR := hide (fun (W : World) => rRight a b W ua)
    have CA := hide (fun (W : World) (g : Grows w W) => loTestsV N A c E s B d l C zs.length dc zs a b base isv ts W (h.grows g) hE (h2.grows g) (by omega) (h3.grows g) (by omega) his (fun z W2 g2 => hct z W2 (g.trans g2)))
    have CT := hide hct
    have CU := hide hrt
    have CW := hide hlw
    have CX := hide hrw
    have H3 := hide h3
    have HZ := hide hz
    clear h h2 h3 ua ub ubase hct hrt hlw hrw his hq hN hl hz
    generalize rrB a b = rr at *
    rcases hNd with ⟨e1, e2⟩ | e1
    all_goals (
      cases isv with
      | false =>
        go_enter Tryz.func3, Tryz.ntmps3
        go_wp2_with fail
        refine (CL.out _).mono ?_; rintro e w' ⟨rfl, hg⟩; obtain ⟨x1, rfl⟩ := hg.later; clear hg
        have b1 : Arr x1.now w.heap.size 24 [.int .i64 N, .slice A E.length c] := Arr.grow ⟨by simp [heap_push, Array.getElem_push, Array.getElem?_push, eq_add2]⟩ x1.grows
        have b2 : Arr x1.now (w.heap.size + 1) 28 [.int .u64 a, .int .u64 b] := Arr.grow ⟨by simp [heap_push, Array.getElem_push, Array.getElem?_push, eq_add2]⟩ x1.grows
        go_wp2_with fail
        refine (CN.out _ (by repeat (first | exact Grows.refl _ | refine Grows.now ?_ _ | refine Grows.new ?_ _ | refine Grows.drewN ?_ _ | refine Grows.drew ?_ | assumption | (refine Grows.set ?_ (by first | omega | (simp; done) | (simp; omega)) _)))).mono ?_; rintro e w' ⟨A1, c1, rfl, hr1, hg⟩; obtain ⟨x2, rfl⟩ := hg.later; clear hg hr1
        go_wp2_with fail
        go_loopw [15, 16] (fun s15 s16 wr => ∃ i : Nat, i ≤ zs.length ∧ s16 = .int .i64 (i : Int) ∧ s15 = .bool (false && (zs.take i).all ts) ∧ ∃ y : Later x2.now, wr = y.now) (fun _ s16 _ => zs.length - (Go.RowKit.intOf s16).toNat)
        case atStart => exact ⟨0, by omega, by go_num, by simp, ⟨_, (by repeat (first | exact Grows.refl _ | refine Grows.now ?_ _ | refine Grows.new ?_ _ | refine Grows.drewN ?_ _ | refine Grows.drew ?_ | assumption | (refine Grows.set ?_ (by first | omega | (simp; done) | (simp; omega)) _)))⟩, rfl⟩
        case round =>
          obtain ⟨i, hi, rfl, rfl, y, rfl⟩ := hrel
          by_cases hlt : i < zs.length
          · have hdk : decide ((i : Int) < (zs.length : Int)) = true := decide_eq_true (by omega)
            have hz20 := HZ.out
            obtain ⟨bC, oC, rfl, hcC⟩ := H3.out.intsH (by omega)
            have ck := hcC i hlt
            have HR : Hid ((false && (zs.take (i + 1)).all ts) = ((false && (zs.take i).all ts) && ts (gi zs i))) := by
              show _ = _
              have e1 : gi zs i = zs[i] := by simp [gi, hlt]
              rw [List.take_add_one, List.getElem?_eq_getElem hlt, List.all_append, e1]
              simp [Bool.and_assoc]
            have CTz := hide (fun (W : World) (g : Grows w W) => CT.out (gi zs i) W g)
            have CUz := hide (fun (W : World) (g : Grows w W) => CU.out (gi zs i) W g)
            generalize ts (gi zs i) = tz at *
            generalize gi zs i = zi at *
            generalize (false && (zs.take i).all ts) = bv at *
            clear hcC
            cases bv <;> cases tz
            all_goals (
              go_upto_region 8 with fail
              ((first | refine wp_region_gen (by kernel_rfl) (by kernel_rfl) ?_); (repeat' (first | (refine gLex_val0 rfl (by kernel_rfl) (fun K hK => ?_); (go_simp; (try (simp only [↓IntWalk.iteOmega]; try go_simp)); (try simp (disch := omega) only [IntWalk.i64_in]); (try simp (disch := omega) only [IntWalk.u64_in]); first | (refine hK _ ?_; clear hK K) | (apply Exists.intro; refine ⟨fun x => ?_, hK _ ?_⟩; (first | (go_at_call 9; exact CUz.out _ (by repeat (first | exact Grows.refl _ | refine Grows.now ?_ _ | refine Grows.new ?_ _ | refine Grows.drewN ?_ _ | refine Grows.drew ?_ | assumption | (refine Grows.set ?_ (by first | omega | (simp; done) | (simp; omega)) _))))); clear hK K))) | (refine gLex_undef rfl rfl rfl (by kernel_rfl) (fun K hK => ?_); go_simp; refine hK _ ?_; clear hK K) | (refine gLex_ask rfl rfl rfl ?_; first | (apply gAsk_yes; kernel_rfl; intro K hK; (go_simp; (try (simp only [↓IntWalk.iteOmega]; try go_simp)); (try simp (disch := omega) only [IntWalk.i64_in]); (try simp (disch := omega) only [IntWalk.u64_in]); first | (refine hK _ ?_; clear hK K) | (apply Exists.intro; refine ⟨fun x => ?_, hK _ ?_⟩; (first | (go_at_call 9; exact CUz.out _ (by repeat (first | exact Grows.refl _ | refine Grows.now ?_ _ | refine Grows.new ?_ _ | refine Grows.drewN ?_ _ | refine Grows.drew ?_ | assumption | (refine Grows.set ?_ (by first | omega | (simp; done) | (simp; omega)) _))))); clear hK K))) | ((first | apply gAsk_no1 | apply gAsk_no2); kernel_rfl; intro K hK; simp [go_sem]; refine hK _ ?_; clear hK K) | (apply gAsk_part; kernel_rfl; all_goals (intro h K hK; (try simp only [Bool.not_true] at h); (try simp only [Bool.not_false] at h); (try simp only [decide_eq_true_eq] at h); (try simp only [decide_eq_false_iff_not] at h); first | (exfalso; first | contradiction | omega) | (go_simp; (try (simp only [↓IntWalk.iteOmega]; try go_simp)); (try simp (disch := omega) only [IntWalk.i64_in]); (try simp (disch := omega) only [IntWalk.u64_in]); first | (refine hK _ ?_; clear hK K) | (apply Exists.intro; refine ⟨fun x => ?_, hK _ ?_⟩; (first | (go_at_call 9; exact CUz.out _ (by repeat (first | exact Grows.refl _ | refine Grows.now ?_ _ | refine Grows.new ?_ _ | refine Grows.drewN ?_ _ | refine Grows.drew ?_ | assumption | (refine Grows.set ?_ (by first | omega | (simp; done) | (simp; omega)) _))))); clear hK K))))))); all_goals ((apply gLex_end); intro x8))
              go_upto_region 10 with fail
              ((first | refine wp_region_gen (by kernel_rfl) (by kernel_rfl) ?_); (repeat' (first | (refine gLex_val0 rfl (by kernel_rfl) (fun K hK => ?_); (go_simp; (try (simp only [↓IntWalk.iteOmega]; try go_simp)); (try simp (disch := omega) only [IntWalk.i64_in]); (try simp (disch := omega) only [IntWalk.u64_in]); first | (refine hK _ ?_; clear hK K) | (apply Exists.intro; refine ⟨fun x => ?_, hK _ ?_⟩; (first | (go_at_call 10; exact CTz.out _ (by repeat (first | exact Grows.refl _ | refine Grows.now ?_ _ | refine Grows.new ?_ _ | refine Grows.drewN ?_ _ | refine Grows.drew ?_ | assumption | (refine Grows.set ?_ (by first | omega | (simp; done) | (simp; omega)) _))))); clear hK K))) | (refine gLex_undef rfl rfl rfl (by kernel_rfl) (fun K hK => ?_); go_simp; refine hK _ ?_; clear hK K) | (refine gLex_ask rfl rfl rfl ?_; first | (apply gAsk_yes; kernel_rfl; intro K hK; (go_simp; (try (simp only [↓IntWalk.iteOmega]; try go_simp)); (try simp (disch := omega) only [IntWalk.i64_in]); (try simp (disch := omega) only [IntWalk.u64_in]); first | (refine hK _ ?_; clear hK K) | (apply Exists.intro; refine ⟨fun x => ?_, hK _ ?_⟩; (first | (go_at_call 10; exact CTz.out _ (by repeat (first | exact Grows.refl _ | refine Grows.now ?_ _ | refine Grows.new ?_ _ | refine Grows.drewN ?_ _ | refine Grows.drew ?_ | assumption | (refine Grows.set ?_ (by first | omega | (simp; done) | (simp; omega)) _))))); clear hK K))) | ((first | apply gAsk_no1 | apply gAsk_no2); kernel_rfl; intro K hK; simp [go_sem]; refine hK _ ?_; clear hK K) | (apply gAsk_part; kernel_rfl; all_goals (intro h K hK; (try simp only [Bool.not_true] at h); (try simp only [Bool.not_false] at h); (try simp only [decide_eq_true_eq] at h); (try simp only [decide_eq_false_iff_not] at h); first | (exfalso; first | contradiction | omega) | (go_simp; (try (simp only [↓IntWalk.iteOmega]; try go_simp)); (try simp (disch := omega) only [IntWalk.i64_in]); (try simp (disch := omega) only [IntWalk.u64_in]); first | (refine hK _ ?_; clear hK K) | (apply Exists.intro; refine ⟨fun x => ?_, hK _ ?_⟩; (first | (go_at_call 10; exact CTz.out _ (by repeat (first | exact Grows.refl _ | refine Grows.now ?_ _ | refine Grows.new ?_ _ | refine Grows.drewN ?_ _ | refine Grows.drew ?_ | assumption | (refine Grows.set ?_ (by first | omega | (simp; done) | (simp; omega)) _))))); clear hK K))))))); all_goals ((apply gLex_end); intro x10))
              go_wp2_with fail
              go_roundw
              case measure => simp [Go.RowKit.intOf]; omega
              case rel => exact ⟨i + 1, by omega, by go_num, by rw [HR.out]; rfl, ⟨_, (by repeat (first | exact Grows.refl _ | refine Grows.now ?_ _ | refine Grows.new ?_ _ | refine Grows.drewN ?_ _ | refine Grows.drew ?_ | assumption | (refine Grows.set ?_ (by first | omega | (simp; done) | (simp; omega)) _)))⟩, rfl⟩)
          · obtain rfl : i = zs.length := by omega
            have hdk : decide ((zs.length : Int) < (zs.length : Int)) = false := decide_eq_false (by omega)
            rw [List.take_length]
            simp only [Bool.false_and] at CA ⊢
            cases wt
            all_goals (
              go_wp2_with fail
              refine (CW.out _ (by repeat (first | exact Grows.refl _ | refine Grows.now ?_ _ | refine Grows.new ?_ _ | refine Grows.drewN ?_ _ | refine Grows.drew ?_ | assumption | (refine Grows.set ?_ (by first | omega | (simp; done) | (simp; omega)) _)))).mono ?_; rintro e w' ⟨rfl, hg⟩; obtain ⟨x4, rfl⟩ := hg.later; clear hg
              go_wp2_with fail
              refine (CX.out _ (by repeat (first | exact Grows.refl _ | refine Grows.now ?_ _ | refine Grows.new ?_ _ | refine Grows.drewN ?_ _ | refine Grows.drew ?_ | assumption | (refine Grows.set ?_ (by first | omega | (simp; done) | (simp; omega)) _)))).mono ?_; rintro e w' ⟨rfl, hg⟩; obtain ⟨x5, rfl⟩ := hg.later; clear hg
              go_wp2_with fail
              refine (CA.out _ (by repeat (first | exact Grows.refl _ | refine Grows.now ?_ _ | refine Grows.new ?_ _ | refine Grows.drewN ?_ _ | refine Grows.drew ?_ | assumption | (refine Grows.set ?_ (by first | omega | (simp; done) | (simp; omega)) _)))).mono ?_; rintro e w' ⟨rfl, hg⟩; obtain ⟨x6, rfl⟩ := hg.later; clear hg
              go_wp2_with fail
              refine (alive27 _).mono ?_; rintro e w' ⟨rfl, hg⟩; obtain ⟨x7, rfl⟩ := hg.later; clear hg
              go_wp2_with fail
              go_ret
              exact ⟨rfl, (by repeat (first | exact Grows.refl _ | refine Grows.now ?_ _ | refine Grows.new ?_ _ | refine Grows.drewN ?_ _ | refine Grows.drew ?_ | assumption | (refine Grows.set ?_ (by first | omega | (simp; done) | (simp; omega)) _)))⟩)
      | true =>
        go_enter Tryz.func3, Tryz.ntmps3
        go_wp2_with fail
        refine (CL.out _).mono ?_; rintro e w' ⟨rfl, hg⟩; obtain ⟨x1, rfl⟩ := hg.later; clear hg
        have b1 : Arr x1.now w.heap.size 24 [.int .i64 N, .slice A E.length c] := Arr.grow ⟨by simp [heap_push, Array.getElem_push, Array.getElem?_push, eq_add2]⟩ x1.grows
        have b2 : Arr x1.now (w.heap.size + 1) 28 [.int .u64 a, .int .u64 b] := Arr.grow ⟨by simp [heap_push, Array.getElem_push, Array.getElem?_push, eq_add2]⟩ x1.grows
        go_wp2_with fail
        refine (CN.out _ (by repeat (first | exact Grows.refl _ | refine Grows.now ?_ _ | refine Grows.new ?_ _ | refine Grows.drewN ?_ _ | refine Grows.drew ?_ | assumption | (refine Grows.set ?_ (by first | omega | (simp; done) | (simp; omega)) _)))).mono ?_; rintro e w' ⟨A1, c1, rfl, hr1, hg⟩; obtain ⟨x2, rfl⟩ := hg.later; clear hg hr1
        go_wp2_with fail
        refine (CR.out _).mono ?_; rintro e w' ⟨rfl, hg⟩; obtain ⟨x3, rfl⟩ := hg.later; clear hg
        go_wp2_with fail
        go_loopw [15, 16] (fun s15 s16 wr => ∃ i : Nat, i ≤ zs.length ∧ s16 = .int .i64 (i : Int) ∧ s15 = .bool (rr && (zs.take i).all ts) ∧ ∃ y : Later x2.now, wr = y.now) (fun _ s16 _ => zs.length - (Go.RowKit.intOf s16).toNat)
        case atStart => exact ⟨0, by omega, by go_num, by simp, ⟨_, (by repeat (first | exact Grows.refl _ | refine Grows.now ?_ _ | refine Grows.new ?_ _ | refine Grows.drewN ?_ _ | refine Grows.drew ?_ | assumption | (refine Grows.set ?_ (by first | omega | (simp; done) | (simp; omega)) _)))⟩, rfl⟩
        case round =>
          obtain ⟨i, hi, rfl, rfl, y, rfl⟩ := hrel
          by_cases hlt : i < zs.length
          · have hdk : decide ((i : Int) < (zs.length : Int)) = true := decide_eq_true (by omega)
            have hz20 := HZ.out
            obtain ⟨bC, oC, rfl, hcC⟩ := H3.out.intsH (by omega)
            have ck := hcC i hlt
            have HR : Hid ((rr && (zs.take (i + 1)).all ts) = ((rr && (zs.take i).all ts) && ts (gi zs i))) := by
              show _ = _
              have e1 : gi zs i = zs[i] := by simp [gi, hlt]
              rw [List.take_add_one, List.getElem?_eq_getElem hlt, List.all_append, e1]
              simp [Bool.and_assoc]
            have CTz := hide (fun (W : World) (g : Grows w W) => CT.out (gi zs i) W g)
            have CUz := hide (fun (W : World) (g : Grows w W) => CU.out (gi zs i) W g)
            generalize ts (gi zs i) = tz at *
            generalize gi zs i = zi at *
            generalize (rr && (zs.take i).all ts) = bv at *
            clear hcC
            cases bv <;> cases tz
            all_goals (
              go_upto_region 8 with fail
              ((first | refine wp_region_gen (by kernel_rfl) (by kernel_rfl) ?_); (repeat' (first | (refine gLex_val0 rfl (by kernel_rfl) (fun K hK => ?_); (go_simp; (try (simp only [↓IntWalk.iteOmega]; try go_simp)); (try simp (disch := omega) only [IntWalk.i64_in]); (try simp (disch := omega) only [IntWalk.u64_in]); first | (refine hK _ ?_; clear hK K) | (apply Exists.intro; refine ⟨fun x => ?_, hK _ ?_⟩; (first | (go_at_call 9; exact CUz.out _ (by repeat (first | exact Grows.refl _ | refine Grows.now ?_ _ | refine Grows.new ?_ _ | refine Grows.drewN ?_ _ | refine Grows.drew ?_ | assumption | (refine Grows.set ?_ (by first | omega | (simp; done) | (simp; omega)) _))))); clear hK K))) | (refine gLex_undef rfl rfl rfl (by kernel_rfl) (fun K hK => ?_); go_simp; refine hK _ ?_; clear hK K) | (refine gLex_ask rfl rfl rfl ?_; first | (apply gAsk_yes; kernel_rfl; intro K hK; (go_simp; (try (simp only [↓IntWalk.iteOmega]; try go_simp)); (try simp (disch := omega) only [IntWalk.i64_in]); (try simp (disch := omega) only [IntWalk.u64_in]); first | (refine hK _ ?_; clear hK K) | (apply Exists.intro; refine ⟨fun x => ?_, hK _ ?_⟩; (first | (go_at_call 9; exact CUz.out _ (by repeat (first | exact Grows.refl _ | refine Grows.now ?_ _ | refine Grows.new ?_ _ | refine Grows.drewN ?_ _ | refine Grows.drew ?_ | assumption | (refine Grows.set ?_ (by first | omega | (simp; done) | (simp; omega)) _))))); clear hK K))) | ((first | apply gAsk_no1 | apply gAsk_no2); kernel_rfl; intro K hK; simp [go_sem]; refine hK _ ?_; clear hK K) | (apply gAsk_part; kernel_rfl; all_goals (intro h K hK; (try simp only [Bool.not_true] at h); (try simp only [Bool.not_false] at h); (try simp only [decide_eq_true_eq] at h); (try simp only [decide_eq_false_iff_not] at h); first | (exfalso; first | contradiction | omega) | (go_simp; (try (simp only [↓IntWalk.iteOmega]; try go_simp)); (try simp (disch := omega) only [IntWalk.i64_in]); (try simp (disch := omega) only [IntWalk.u64_in]); first | (refine hK _ ?_; clear hK K) | (apply Exists.intro; refine ⟨fun x => ?_, hK _ ?_⟩; (first | (go_at_call 9; exact CUz.out _ (by repeat (first | exact Grows.refl _ | refine Grows.now ?_ _ | refine Grows.new ?_ _ | refine Grows.drewN ?_ _ | refine Grows.drew ?_ | assumption | (refine Grows.set ?_ (by first | omega | (simp; done) | (simp; omega)) _))))); clear hK K))))))); all_goals ((apply gLex_end); intro x8))
              go_upto_region 10 with fail
              ((first | refine wp_region_gen (by kernel_rfl) (by kernel_rfl) ?_); (repeat' (first | (refine gLex_val0 rfl (by kernel_rfl) (fun K hK => ?_); (go_simp; (try (simp only [↓IntWalk.iteOmega]; try go_simp)); (try simp (disch := omega) only [IntWalk.i64_in]); (try simp (disch := omega) only [IntWalk.u64_in]); first | (refine hK _ ?_; clear hK K) | (apply Exists.intro; refine ⟨fun x => ?_, hK _ ?_⟩; (first | (go_at_call 10; exact CTz.out _ (by repeat (first | exact Grows.refl _ | refine Grows.now ?_ _ | refine Grows.new ?_ _ | refine Grows.drewN ?_ _ | refine Grows.drew ?_ | assumption | (refine Grows.set ?_ (by first | omega | (simp; done) | (simp; omega)) _))))); clear hK K))) | (refine gLex_undef rfl rfl rfl (by kernel_rfl) (fun K hK => ?_); go_simp; refine hK _ ?_; clear hK K) | (refine gLex_ask rfl rfl rfl ?_; first | (apply gAsk_yes; kernel_rfl; intro K hK; (go_simp; (try (simp only [↓IntWalk.iteOmega]; try go_simp)); (try simp (disch := omega) only [IntWalk.i64_in]); (try simp (disch := omega) only [IntWalk.u64_in]); first | (refine hK _ ?_; clear hK K) | (apply Exists.intro; refine ⟨fun x => ?_, hK _ ?_⟩; (first | (go_at_call 10; exact CTz.out _ (by repeat (first | exact Grows.refl _ | refine Grows.now ?_ _ | refine Grows.new ?_ _ | refine Grows.drewN ?_ _ | refine Grows.drew ?_ | assumption | (refine Grows.set ?_ (by first | omega | (simp; done) | (simp; omega)) _))))); clear hK K))) | ((first | apply gAsk_no1 | apply gAsk_no2); kernel_rfl; intro K hK; simp [go_sem]; refine hK _ ?_; clear hK K) | (apply gAsk_part; kernel_rfl; all_goals (intro h K hK; (try simp only [Bool.not_true] at h); (try simp only [Bool.not_false] at h); (try simp only [decide_eq_true_eq] at h); (try simp only [decide_eq_false_iff_not] at h); first | (exfalso; first | contradiction | omega) | (go_simp; (try (simp only [↓IntWalk.iteOmega]; try go_simp)); (try simp (disch := omega) only [IntWalk.i64_in]); (try simp (disch := omega) only [IntWalk.u64_in]); first | (refine hK _ ?_; clear hK K) | (apply Exists.intro; refine ⟨fun x => ?_, hK _ ?_⟩; (first | (go_at_call 10; exact CTz.out _ (by repeat (first | exact Grows.refl _ | refine Grows.now ?_ _ | refine Grows.new ?_ _ | refine Grows.drewN ?_ _ | refine Grows.drew ?_ | assumption | (refine Grows.set ?_ (by first | omega | (simp; done) | (simp; omega)) _))))); clear hK K))))))); all_goals ((apply gLex_end); intro x10))
              go_wp2_with fail
              go_roundw
              case measure => simp [Go.RowKit.intOf]; omega
              case rel => exact ⟨i + 1, by omega, by go_num, by rw [HR.out]; rfl, ⟨_, (by repeat (first | exact Grows.refl _ | refine Grows.now ?_ _ | refine Grows.new ?_ _ | refine Grows.drewN ?_ _ | refine Grows.drew ?_ | assumption | (refine Grows.set ?_ (by first | omega | (simp; done) | (simp; omega)) _)))⟩, rfl⟩)
          · obtain rfl : i = zs.length := by omega
            have hdk : decide ((zs.length : Int) < (zs.length : Int)) = false := decide_eq_false (by omega)
            rw [List.take_length]
            simp only [Bool.true_and] at CA
            generalize (rr && zs.all ts) = al at *
            cases al <;> cases wt
            all_goals (
              go_wp2_with fail
              refine (CW.out _ (by repeat (first | exact Grows.refl _ | refine Grows.now ?_ _ | refine Grows.new ?_ _ | refine Grows.drewN ?_ _ | refine Grows.drew ?_ | assumption | (refine Grows.set ?_ (by first | omega | (simp; done) | (simp; omega)) _)))).mono ?_; rintro e w' ⟨rfl, hg⟩; obtain ⟨x4, rfl⟩ := hg.later; clear hg
              go_wp2_with fail
              refine (CX.out _ (by repeat (first | exact Grows.refl _ | refine Grows.now ?_ _ | refine Grows.new ?_ _ | refine Grows.drewN ?_ _ | refine Grows.drew ?_ | assumption | (refine Grows.set ?_ (by first | omega | (simp; done) | (simp; omega)) _)))).mono ?_; rintro e w' ⟨rfl, hg⟩; obtain ⟨x5, rfl⟩ := hg.later; clear hg
              go_wp2_with fail
              refine (CA.out _ (by repeat (first | exact Grows.refl _ | refine Grows.now ?_ _ | refine Grows.new ?_ _ | refine Grows.drewN ?_ _ | refine Grows.drew ?_ | assumption | (refine Grows.set ?_ (by first | omega | (simp; done) | (simp; omega)) _)))).mono ?_; rintro e w' ⟨rfl, hg⟩; obtain ⟨x6, rfl⟩ := hg.later; clear hg
              go_wp2_with fail
              refine (alive27 _).mono ?_; rintro e w' ⟨rfl, hg⟩; obtain ⟨x7, rfl⟩ := hg.later; clear hg
              go_wp2_with fail
              go_ret
              exact ⟨rfl, (by repeat (first | exact Grows.refl _ | refine Grows.now ?_ _ | refine Grows.new ?_ _ | refine Grows.drewN ?_ _ | refine Grows.drew ?_ | assumption | (refine Grows.set ?_ (by first | omega | (simp; done) | (simp; omega)) _)))⟩))
  · refine short ?_
    cases hq : lightG N E.length with
    | false => exact .inl rfl
    | true =>
      refine .inr ⟨rfl, ?_⟩
      by_cases h1 : 20 < N ∧ N ≤ 4096
      · exact .inl ⟨decide_eq_true h1.1, decide_eq_true h1.2⟩
      · refine .inr ⟨?_, ?_⟩
        · by_cases h4 : 20 < N
          · exact .inl ⟨decide_eq_true h4, decide_eq_false (fun h5 => h1 ⟨h4, h5⟩)⟩
          · exact .inr (decide_eq_false h4)
        · by_cases h6 : 20 < l.length
          · exact .inl (decide_eq_true (by omega))
          · exact .inr ⟨decide_eq_false (by omega), decide_eq_true (by
              rcases Nat.lt_or_ge 20 zs.length with h7 | h7
              · omega
              · exact absurd ⟨hq, h1, by omega, by omega⟩ hbig)⟩
end Go.Proofs.YtiljgkaffgclgaaGreat

/- The law LocalTests: for every input it returns true, and each argument reads as before. No condition. -/
namespace Go.Proofs.YtiljgkaffgclgaaGreat.lawLocalTests
open Go Go.ChangeShapes Go.WideShapes Go.ChangeAt Go.RowKit Go.Proofs.YtiljgkaffgclgaaGreat

theorem own : ownKnob Tryz.prog.godebug = none := by kernel_rfl
theorem laidOut : laidOutB Tryz.prog = true := by kernel_rfl

set_option maxRecDepth 100000 in
theorem lifted (os : Os) (started : os.Started) (H : Type) (enc : TypeId × Value → H) :
    ReturnsInHanded {} Tryz.checked os 3 .any (Rows.localTestsSpec.pre6 enc Tryz.prog Tryz.f3 Rows.localTestsRow.domain false) (Rows.localTestsSpec.post enc Tryz.prog Tryz.f3 false true false false) := by
  refine returnsInHanded_of_change (C := Tryz.checked) own started (by kernel_rfl) Tryz.func3
    (ChangeSpec.witness6 (enc := enc) (C := Tryz.checked) false ⟨#[], #[.agg #[.int .i64 0, .slice none 0 0], .int .i64 0, .slice none 0 0, .slice none 0 0, .agg #[.int .u64 0, .int .u64 0], .int .u64 0], []⟩ 8 (by kernel_rfl) (by kernel_rfl) (by kernel_rfl) (by kernel_rfl)) ?_
  intro W base args ds gs before hval0 hW hcnd _
  have hval : ∀ (j : Nat) t v, Tryz.f3.params[j]? = some t → args[j]? = some v → Value.okWide Tryz.prog W .any base t v := hval0
  have hW' := hW
  obtain ⟨p, q, hA0, hV, rfl, hfz, hnd⟩ := hW
  have hA : DataW.TrodAll enc Tryz.prog W 0 (fun _ => true) true Tryz.f3.params.toList args.toList ds p := hA0
  rw [Tryz.params3] at hA hval
  obtain ⟨v0, vs0, d0, ds0, p0, q0, hargs, rfl, rfl, h0, r0⟩ := trodAll_cons hA
  obtain ⟨v1, vs1, d1, ds1, p1, q1, rfl, rfl, rfl, h1, r1⟩ := trodAll_cons r0
  obtain ⟨v2, vs2, d2, ds2, p2, q2, rfl, rfl, rfl, h2, r2⟩ := trodAll_cons r1
  obtain ⟨v3, vs3, d3, ds3, p3, q3, rfl, rfl, rfl, h3, r3⟩ := trodAll_cons r2
  obtain ⟨v4, vs4, d4, ds4, p4, q4, rfl, rfl, rfl, h4, r4⟩ := trodAll_cons r3
  obtain ⟨v5, vs5, d5, ds5, p5, q5, rfl, rfl, rfl, h5, r5⟩ := trodAll_cons r4
  obtain ⟨rfl, rfl, rfl⟩ := trodAll_nil r5
  obtain rfl : args = #[v0, v1, v2, v3, v4, v5] := by cases args; simp_all
  obtain ⟨rfl, rfl⟩ := trodVars_none hV
  have k0 := h0
  have lt0 : ∀ x ∈ p0, x.block < W.heap.size := by obtain ⟨m, hm⟩ := k0; exact DataW.trod_lt m _ _ _ hm
  obtain ⟨a0, A0, n0, c0, z0, rfl, x0, l0, w0, u0⟩ := open_graph Tryz.underlying24 Tryz.underlying3 Tryz.underlying22 Tryz.underlying59 Tryz.underlying3 Tryz.underlying3 Tryz.underlying26 ⟨rfl, rfl, rfl⟩ ⟨by kernel_rfl, by kernel_rfl, by kernel_rfl⟩ (by kernel_rfl) (by kernel_rfl) (by kernel_rfl) (hval 0 24 v0 rfl rfl) h0
  have k1 := h1
  have lt1 : ∀ x ∈ p1, x.block < W.heap.size := by obtain ⟨m, hm⟩ := k1; exact DataW.trod_lt m _ _ _ hm
  obtain ⟨a1, rfl, w1⟩ := open_i64 Tryz.underlying3 (hval 1 3 v1 rfl rfl) h1
  have k2 := h2
  have lt2 : ∀ x ∈ p2, x.block < W.heap.size := by obtain ⟨m, hm⟩ := k2; exact DataW.trod_lt m _ _ _ hm
  obtain ⟨A2, n2, c2, z2, rfl, l2, w2, u2⟩ := open_numsC Tryz.underlying25 Tryz.underlying3 (by kernel_rfl) (hval 2 25 v2 rfl rfl) h2
  have k3 := h3
  have lt3 : ∀ x ∈ p3, x.block < W.heap.size := by obtain ⟨m, hm⟩ := k3; exact DataW.trod_lt m _ _ _ hm
  obtain ⟨A3, n3, c3, z3, rfl, l3, w3, u3⟩ := open_numsC Tryz.underlying25 Tryz.underlying3 (by kernel_rfl) (hval 3 25 v3 rfl rfl) h3
  have k4 := h4
  have lt4 : ∀ x ∈ p4, x.block < W.heap.size := by obtain ⟨m, hm⟩ := k4; exact DataW.trod_lt m _ _ _ hm
  obtain ⟨a4, b4, rfl, w4, u4⟩ := open_uu Tryz.underlying28 Tryz.underlying26 Tryz.underlying26 (by kernel_rfl) (by kernel_rfl) (hval 4 28 v4 rfl rfl) h4
  have k5 := h5
  have lt5 : ∀ x ∈ p5, x.block < W.heap.size := by obtain ⟨m, hm⟩ := k5; exact DataW.trod_lt m _ _ _ hm
  obtain ⟨a5, rfl, w5⟩ := open_u64 Tryz.underlying26 (hval 5 26 v5 rfl rfl) h5
  clear hA0 hval0
  refine (localTestsW a0 A0 n0 c0 z0 a1 A2 n2 c2 z2 A3 n3 c3 z3 a4 b4 a5 W x0 l0 w0 u0 w1 l2 w2 u2 l3 w3 u3 w4 u4 w5).mono fun e W' ⟨he, bel⟩ => ?_
  subst he
  exact ⟨_, rfl, _, _, _, [], _, [], hW', trodAll_mk1 (shut_bool Tryz.underlying4 _), (trodAll_cons_mk (Below.trod laidOut (by kernel_rfl) (of_decide_eq_true (by kernel_rfl)) k0 bel lt0) (trodAll_cons_mk (Below.trod laidOut (by kernel_rfl) (of_decide_eq_true (by kernel_rfl)) k1 bel lt1) (trodAll_cons_mk (Below.trod laidOut (by kernel_rfl) (of_decide_eq_true (by kernel_rfl)) k2 bel lt2) (trodAll_cons_mk (Below.trod laidOut (by kernel_rfl) (of_decide_eq_true (by kernel_rfl)) k3 bel lt3) (trodAll_cons_mk (Below.trod laidOut (by kernel_rfl) (of_decide_eq_true (by kernel_rfl)) k4 bel lt4) (trodAll_cons_mk (Below.trod laidOut (by kernel_rfl) (of_decide_eq_true (by kernel_rfl)) k5 bel lt5) trodAll_mk0)))))), rfl, Below.frame bel _, fun h => by cases h⟩

theorem over : Rows.localTestsRow.holds Tryz.pinned (OpenSpec.ofChange Rows.localTestsSpec) :=
  OpenClaim.holds_of_wide 3 Tryz.f3 rfl rfl rfl rfl rfl rfl rfl ⟨rfl, rfl, rfl, rfl, rfl⟩ rfl rfl rfl rfl rfl (by kernel_rfl) Tryz.func3 (by kernel_rfl)
    (of_decide_eq_true (by kernel_rfl)) (by unfold Func.isWrapper; first | (rw [if_pos (by decide +kernel)]; kernel_rfl) | (rw [if_neg (by decide +kernel)]; exact ⟨rfl, rfl⟩))
    (fun os started H enc _ => lifted os started H enc)

end Go.Proofs.YtiljgkaffgclgaaGreat.lawLocalTests
namespace Go.Proofs.YtiljgkaffgclgaaGreat
/-- The statement. -/
theorem localTests_proved : Rows.LocalTestsSaid := lawLocalTests.over
#print axioms localTests_proved
end Go.Proofs.YtiljgkaffgclgaaGreat
