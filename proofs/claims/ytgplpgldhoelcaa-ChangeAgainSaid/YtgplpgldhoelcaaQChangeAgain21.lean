/- Contract: a core of a graph is begun. -/
import Derived.Test.YtgplpgldhoelcaaQChangeAgain14
import Derived.Carry
import Derived.Test.YtgplpgldhoelcaaQChangeAgain11
import Derived.Test.YtgplpgldhoelcaaQChangeAgain09
namespace Go.Proofs.Ytgplpgldhoelcaa
open Go Go.RowKit
attribute [local go_sem] Oper.semAt_some
theorem ctr_len {c : Ctr} {x : Sc} {n : Nat} (h : ∀ u, (ga c.O u).length ≤ n) : ∀ u, (ga (c.add x).O u).length ≤ n + 1 := by
  intro u
  by_cases hh : c.has x.f x.t x.w = true
  · rw [Ctr.add_yes hh]; exact Nat.le_succ_of_le (h u)
  · rw [Ctr.add_no hh]
    show (ga (c.O.set x.f _) u).length ≤ n + 1
    by_cases e : u = x.f ∧ x.f < c.O.length
    · rw [ga_set e.2, if_pos e.1, List.length_append, List.length_singleton]
      exact Nat.succ_le_succ (Nat.le_trans (List.length_filter_le _ _) (h _))
    · by_cases e2 : x.f < c.O.length
      · rw [ga_set e2, if_neg (fun e3 => e ⟨e3, e2⟩)]
        exact Nat.le_succ_of_le (h u)
      · rw [List.set_eq_of_length_le (by omega)]
        exact Nat.le_succ_of_le (h u)
theorem add_len (c : Ctr) (x : Sc) : (c.add x).S.length ≤ c.S.length + 1 := by
  by_cases hh : c.has x.f x.t x.w = true
  · rw [Ctr.add_yes hh]; omega
  · rw [Ctr.add_no hh]
    show (c.S ++ [x]).length ≤ _
    simp
theorem run_makeBoolsC (n : Nat) (hn : n ≤ 1000000000) (w : World) : (Instr.makeSlice 23 (.int .i64 (n : Int)) (.int .i64 (n : Int))).run Try.prog w = .ok (.slice (some ⟨w.heap.size, 0, none⟩) n n) (w.alloc (.cells (List.replicate n (Value.bool false)).toArray 4)) := by
  have h : (Try.prog.info? 4).map (fun i => (i.zero, i.size, i.bytes)) = some (some (.bool false), 1, 1) := by kernel_rfl
  obtain ⟨i, h1, h2, h3, h4⟩ := info_parts h
  have := run_make_row (P := Try.prog) 23 4 i (.bool false) Try.underlying23 h1 h2 h3 rfl .i64 .i64 n (by rw [h4]; omega) (by omega) w
  have e : madeCells #[Value.bool false] n = (List.replicate n (Value.bool false)).toArray := Array.ext' (by rw [toList_madeCells_one])
  rw [e] at this
  exact this
theorem run_makeArcss (n : Nat) (hn : n ≤ 1000000000) (w : World) : (Instr.makeSlice 32 (.int .i64 (n : Int)) (.int .i64 (n : Int))).run Try.prog w = .ok (.slice (some ⟨w.heap.size, 0, none⟩) n n) (w.alloc (.cells (List.replicate n (Value.slice none 0 0)).toArray 28)) := by
  have h : (Try.prog.info? 28).map (fun i => (i.zero, i.size, i.bytes)) = some (some (.slice none 0 0), 1, 24) := by kernel_rfl
  obtain ⟨i, h1, h2, h3, h4⟩ := info_parts h
  have := run_make_row (P := Try.prog) 32 28 i (.slice none 0 0) Try.underlying32 h1 h2 h3 rfl .i64 .i64 n (by rw [h4]; omega) (by omega) w
  have e : madeCells #[Value.slice none 0 0] n = (List.replicate n (Value.slice none 0 0)).toArray := Array.ext' (by rw [toList_madeCells_one])
  rw [e] at this
  exact this
def EdgC (N : Nat) (E : List Edg) : Prop := ∀ i, i < E.length → (ge E i).f = (fN E i : Int) ∧ (ge E i).t = (tN E i : Int) ∧ (ge E i).w = ((ge E i).w.toNat : Int) ∧ fN E i < N ∧ tN E i < N ∧ fN E i ≠ tN E i ∧ (ge E i).w.toNat < 2 ^ 60
theorem ctr0_n (N : Nat) : CtN N (ctr0 N) := by
  refine ⟨by simp [ctr0], by simp [ctr0], by simp [ctr0], fun u hu t w => ?_, fun u t i h => by simp [ctr0] at h, fun i hi => by simp [ctr0] at hi⟩
  simp [ctr0, ga, hu]
theorem edges_n {N : Nat} {E : List Edg} (h : EdgC N E) : ∀ k, k ≤ E.length → CtN N (Ctr.edges E k (ctr0 N)) ∧ (Ctr.edges E k (ctr0 N)).S.length ≤ k ∧ (∀ u, (ga (Ctr.edges E k (ctr0 N)).O u).length ≤ k) ∧ ∀ i, i < (Ctr.edges E k (ctr0 N)).S.length → (gs (Ctr.edges E k (ctr0 N)).S i).w < 2 ^ 60
  | 0, _ => ⟨ctr0_n N, Nat.le_refl _, fun u => by
      show (ga (List.replicate N []) u).length ≤ 0
      unfold ga
      rw [List.getD_eq_getElem?_getD, List.getElem?_replicate]
      split <;> simp, fun i hi => by cases hi⟩
  | k + 1, hk => by
    obtain ⟨h1, h2, h3, h4⟩ := edges_n h k (by omega)
    obtain ⟨_, _, _, e1, e2, e3, e4⟩ := h k (by omega)
    exact ⟨h1.add e1 e2 e3, Nat.le_trans (add_len _ _) (by omega), ctr_len h3, Ctr.add_all (P := fun _ s => s.w < 2 ^ 60) h4 e4⟩
def GiveBg (w : World) (N hops settles : Nat) (rk : Value) (c : Ctr) (e : Ending) (w' : World) : Prop :=
  ∃ P : CorePl, e = .returned (.pointer (some ⟨P.b, 0, none⟩)) ∧ P.N = N ∧ P.hops = hops ∧ P.settles = settles ∧ P.rk = rk ∧ CoreAt w' (New w w') P c ∧ Grows w w'
set_option maxRecDepth 20000 in
set_option maxHeartbeats 8000000 in
theorem coBegun (N : Nat) (A : Option Addr) (c0 : Nat) (E : List Edg) (hops settles : Nat) (rk : Value) (w : World) (h : Rd w A 3 E.length (esCells E)) (hE : EdgC N E) (hN : N ≤ 4096) (hn : E.length ≤ 100000) :
    Calls Try.prog 71 #[.agg #[.int .i64 (N : Int), .slice A E.length c0], .agg #[.int .i64 (hops : Int), .int .i64 (settles : Int), rk]] w (GiveBg w N hops settles rk (ctrG N E)) := by
  have HR := hide h
  have HE := hide hE
  have HEN := hide (fun k (hk : k ≤ E.length) => edges_n hE k hk)
  have wN : I64 (N : Int) := ⟨by omega, by omega⟩
  have hbN : decide (0 ≤ (N : Int)) = true := decide_eq_true (by omega)
  have hCT : Hid (ctrG N E = Ctr.edges E E.length (ctr0 N)) := rfl
  rw [hCT.out]
  obtain ⟨W1, hW1⟩ : ∃ W1, W1 = (w.alloc (.cells #[.int .i64 (N : Int), .slice A E.length c0] 44)).alloc (.cells #[.int .i64 (hops : Int), .int .i64 (settles : Int), rk] 37) := ⟨_, rfl⟩
  have hgw1 : Grows w W1 := by rw [hW1]; exact ((Grows.refl _).new _).new _
  have a2 : Arr W1 w.heap.size 44 [.int .i64 (N : Int), .slice A E.length c0] := by rw [hW1]; exact (Arr.make _ _ _).grow ((Grows.refl _).new _)
  have a3 : Arr W1 (w.heap.size + 1) 37 [.int .i64 (hops : Int), .int .i64 (settles : Int), rk] := by
    rw [hW1]
    have := Arr.make (w.alloc (.cells #[.int .i64 (N : Int), .slice A E.length c0] 44)) [.int .i64 (hops : Int), .int .i64 (settles : Int), rk] 37
    simpa using this
  clear h hE hCT
  have hmm := @run_makeMap Try.prog
  have hm1 := run_makeArcss N (by omega)
  have hm2 := run_makeBoolsC N (by omega)
  have hm3 := run_makeInts N (by omega)
  go_enter Try.func71, Try.ntmps71
  go_upto_region 1 with fail
  rw [← hW1]
  clear hW1
  generalize hb0 : w.heap.size = b0 at *
  have HB0 := hide hb0
  clear hb0
  obtain ⟨y1, rfl⟩ := hgw1.later
  obtain ⟨VV, hVV⟩ : ∃ V : Nat × Nat × Nat × Nat × Nat → Nat → Value, V = fun c j => ([.pointer (some ⟨b0, 0, none⟩), .int .i64 (N : Int), .slice (some ⟨c.1, 0, none⟩) N N, .pointer (some ⟨b0, 0, none⟩), .int .i64 (N : Int), .slice (some ⟨c.2.1, 0, none⟩) N N, .agg #[.slice (some ⟨c.1, 0, none⟩) N N, .slice (some ⟨c.2.1, 0, none⟩) N N], .map (some c.2.2.1), .agg #[.int .i64 (hops : Int), .int .i64 (settles : Int), rk], .pointer (some ⟨b0, 0, none⟩), .int .i64 (N : Int), .slice (some ⟨c.2.2.2.1, 0, none⟩) N N, .agg #[.slice (some ⟨c.1, 0, none⟩) N N, .slice (some ⟨c.2.1, 0, none⟩) N N, .map (some c.2.2.1), .slice none 0 0, .int .i64 (hops : Int), .int .i64 (settles : Int), rk, .slice (some ⟨c.2.2.2.1, 0, none⟩) N N], .pointer (some ⟨c.2.2.2.2, 0, none⟩), .pointer (some ⟨c.2.2.2.2, 0, none⟩)] : List Value).getD j undef := ⟨_, rfl⟩
  refine wp_region_some (by kernel_rfl) (by kernel_rfl) (by kernel_rfl) (by kernel_rfl) (by kernel_rfl) VV
    (fun c D w1 => Grows y1.now w1 ∧ (D 2 = true → Arr w1 c.1 28 (List.replicate N (Value.slice none 0 0)) ∧ y1.now.heap.size ≤ c.1) ∧ (D 5 = true → Arr w1 c.2.1 4 (List.replicate N (Value.bool false)) ∧ y1.now.heap.size ≤ c.2.1) ∧
      (D 7 = true → MapPV w1 c.2.2.1 0 (fun _ _ => none) ∧ y1.now.heap.size ≤ c.2.2.1) ∧ (D 11 = true → Arr w1 c.2.2.2.1 3 (List.replicate N (Value.int .i64 0)) ∧ y1.now.heap.size ≤ c.2.2.2.1) ∧ (D 13 = true → Arr w1 c.2.2.2.2 150 [.slice (some ⟨c.1, 0, none⟩) N N, .slice (some ⟨c.2.1, 0, none⟩) N N, .map (some c.2.2.1), .slice none 0 0, .int .i64 (hops : Int), .int .i64 (settles : Int), rk, .slice (some ⟨c.2.2.2.1, 0, none⟩) N N] ∧ y1.now.heap.size ≤ c.2.2.2.2))
    (0, 0, 0, 0, 0) ⟨(Grows.refl _).drew, fun h => absurd h (by simp), fun h => absurd h (by simp), fun h => absurd h (by simp), fun h => absurd h (by simp), fun h => absurd h (by simp)⟩ ?hs ?he
  case hs =>
    subst hVV
    intro c a hV hO i oo' ho D hcl hD hpre w1 hM
    obtain ⟨hgx, h2, h5, h7, h11, h13⟩ := hM
    obtain ⟨x, rfl⟩ := hgx.later
    match i, ho, hD, hpre with
      | 0, ho, hD, hpre =>
        cases (show some _ = some oo' from ho)
        have e2 := ev_nfK ((hO 2 (notDstK (by kernel_rfl))).trans rfl)
        refine runsTo_mono11 (Q := fun uu w1 => w1 = x.now ∧ uu = (.pointer (some ⟨b0, 0, none⟩) : Value)) ?_ (fun uu w1 ⟨h1, hq⟩ => ⟨c, by subst h1; exact ⟨x.grows, by simpa using h2, by simpa using h5, by simpa using h7, by simpa using h11, by simpa using h13⟩, fun _ _ _ => rfl, .inr hq⟩)
        clear h2 h5 h7 h11 h13
        go_simp
        all_goals exact ⟨rfl, rfl⟩
      | 1, ho, hD, hpre =>
        cases (show some _ = some oo' from ho)
        have e8 := ev_nfK (hV 0 8 rfl)
        refine runsTo_mono11 (Q := fun uu w1 => w1 = x.now ∧ uu = (.int .i64 (N : Int) : Value)) ?_ (fun uu w1 ⟨h1, hq⟩ => ⟨c, by subst h1; exact ⟨x.grows, by simpa using h2, by simpa using h5, by simpa using h7, by simpa using h11, by simpa using h13⟩, fun _ _ _ => rfl, .inr hq⟩)
        clear h2 h5 h7 h11 h13
        go_simp
        all_goals exact ⟨rfl, rfl⟩
      | 2, ho, hD, hpre =>
        cases (show some _ = some oo' from ho)
        have e9 := ev_nfK (hV 1 9 rfl)
        have n2 : D 2 = false := hD
        have n6 : D 6 = false := by
          cases hd : D 6 with
          | false => rfl
          | true => exact absurd (hcl 6 2 hd (by kernel_rfl)) (by rw [n2]; exact Bool.false_ne_true)
        have n12 : D 12 = false := by
          cases hd : D 12 with
          | false => rfl
          | true => exact absurd (hcl 12 6 hd (by kernel_rfl)) (by rw [n6]; exact Bool.false_ne_true)
        have n13 : D 13 = false := by
          cases hd : D 13 with
          | false => rfl
          | true => exact absurd (hcl 13 12 hd (by kernel_rfl)) (by rw [n12]; exact Bool.false_ne_true)
        have n14 : D 14 = false := by
          cases hd : D 14 with
          | false => rfl
          | true => exact absurd (hcl 14 13 hd (by kernel_rfl)) (by rw [n13]; exact Bool.false_ne_true)
        have h4 : Grows x.now (x.now.alloc (.cells (List.replicate N (Value.slice none 0 0)).toArray 28)) := (Grows.refl _).new _
        refine runsTo_mono11 (Q := fun uu w1 => w1 = x.now.alloc (.cells (List.replicate N (Value.slice none 0 0)).toArray 28) ∧ uu = (.slice (some ⟨x.now.heap.size, 0, none⟩) N N : Value)) ?_ (fun uu w1 hq => ?_)
        · clear h2 h5 h7 h11 h13
          go_simp
          all_goals exact ⟨rfl, rfl⟩
        · obtain ⟨h8, h1⟩ := hq
          subst h8
          refine ⟨(x.now.heap.size, c.2), ⟨x.grows.trans h4, fun _ => ?_, fun hd => ?_, fun hd => ?_, fun hd => ?_, fun hd => absurd hd (by simp [n13])⟩, fun j _ hDj => ?_, .inr h1⟩
          · exact ⟨Arr.make _ _ _, x.size⟩
          · obtain ⟨z1, z2⟩ := h5 (by simpa using hd)
            exact ⟨z1.grow h4, z2⟩
          · obtain ⟨z1, z2⟩ := h7 (by simpa using hd)
            exact ⟨z1.grow h4, z2⟩
          · obtain ⟨z1, z2⟩ := h11 (by simpa using hd)
            exact ⟨z1.grow h4, z2⟩
          · match j, hDj with
            | 0, _ => rfl
            | 1, _ => rfl
            | 2, hDj => exact absurd hDj (by rw [n2]; exact Bool.false_ne_true)
            | 3, _ => rfl
            | 4, _ => rfl
            | 5, _ => rfl
            | 6, hDj => exact absurd hDj (by rw [n6]; exact Bool.false_ne_true)
            | 7, _ => rfl
            | 8, _ => rfl
            | 9, _ => rfl
            | 10, _ => rfl
            | 11, _ => rfl
            | 12, hDj => exact absurd hDj (by rw [n12]; exact Bool.false_ne_true)
            | 13, _ => rfl
            | 14, _ => rfl
            | n + 15, _ => rfl
      | 3, ho, hD, hpre =>
        cases (show some _ = some oo' from ho)
        have e2 := ev_nfK ((hO 2 (notDstK (by kernel_rfl))).trans rfl)
        refine runsTo_mono11 (Q := fun uu w1 => w1 = x.now ∧ uu = (.pointer (some ⟨b0, 0, none⟩) : Value)) ?_ (fun uu w1 ⟨h1, hq⟩ => ⟨c, by subst h1; exact ⟨x.grows, by simpa using h2, by simpa using h5, by simpa using h7, by simpa using h11, by simpa using h13⟩, fun _ _ _ => rfl, .inr hq⟩)
        clear h2 h5 h7 h11 h13
        go_simp
        all_goals exact ⟨rfl, rfl⟩
      | 4, ho, hD, hpre =>
        cases (show some _ = some oo' from ho)
        have e11 := ev_nfK (hV 3 11 rfl)
        refine runsTo_mono11 (Q := fun uu w1 => w1 = x.now ∧ uu = (.int .i64 (N : Int) : Value)) ?_ (fun uu w1 ⟨h1, hq⟩ => ⟨c, by subst h1; exact ⟨x.grows, by simpa using h2, by simpa using h5, by simpa using h7, by simpa using h11, by simpa using h13⟩, fun _ _ _ => rfl, .inr hq⟩)
        clear h2 h5 h7 h11 h13
        go_simp
        all_goals exact ⟨rfl, rfl⟩
      | 5, ho, hD, hpre =>
        cases (show some _ = some oo' from ho)
        have e12 := ev_nfK (hV 4 12 rfl)
        have n5 : D 5 = false := hD
        have n6 : D 6 = false := by
          cases hd : D 6 with
          | false => rfl
          | true => exact absurd (hcl 6 5 hd (by kernel_rfl)) (by rw [n5]; exact Bool.false_ne_true)
        have n12 : D 12 = false := by
          cases hd : D 12 with
          | false => rfl
          | true => exact absurd (hcl 12 6 hd (by kernel_rfl)) (by rw [n6]; exact Bool.false_ne_true)
        have n13 : D 13 = false := by
          cases hd : D 13 with
          | false => rfl
          | true => exact absurd (hcl 13 12 hd (by kernel_rfl)) (by rw [n12]; exact Bool.false_ne_true)
        have n14 : D 14 = false := by
          cases hd : D 14 with
          | false => rfl
          | true => exact absurd (hcl 14 13 hd (by kernel_rfl)) (by rw [n13]; exact Bool.false_ne_true)
        have h4 : Grows x.now (x.now.alloc (.cells (List.replicate N (Value.bool false)).toArray 4)) := (Grows.refl _).new _
        refine runsTo_mono11 (Q := fun uu w1 => w1 = x.now.alloc (.cells (List.replicate N (Value.bool false)).toArray 4) ∧ uu = (.slice (some ⟨x.now.heap.size, 0, none⟩) N N : Value)) ?_ (fun uu w1 hq => ?_)
        · clear h2 h5 h7 h11 h13
          go_simp
          all_goals exact ⟨rfl, rfl⟩
        · obtain ⟨h8, h1⟩ := hq
          subst h8
          refine ⟨(c.1, x.now.heap.size, c.2.2), ⟨x.grows.trans h4, fun hd => ?_, fun _ => ?_, fun hd => ?_, fun hd => ?_, fun hd => absurd hd (by simp [n13])⟩, fun j _ hDj => ?_, .inr h1⟩
          · obtain ⟨z1, z2⟩ := h2 (by simpa using hd)
            exact ⟨z1.grow h4, z2⟩
          · exact ⟨Arr.make _ _ _, x.size⟩
          · obtain ⟨z1, z2⟩ := h7 (by simpa using hd)
            exact ⟨z1.grow h4, z2⟩
          · obtain ⟨z1, z2⟩ := h11 (by simpa using hd)
            exact ⟨z1.grow h4, z2⟩
          · match j, hDj with
            | 0, _ => rfl
            | 1, _ => rfl
            | 2, _ => rfl
            | 3, _ => rfl
            | 4, _ => rfl
            | 5, hDj => exact absurd hDj (by rw [n5]; exact Bool.false_ne_true)
            | 6, hDj => exact absurd hDj (by rw [n6]; exact Bool.false_ne_true)
            | 7, _ => rfl
            | 8, _ => rfl
            | 9, _ => rfl
            | 10, _ => rfl
            | 11, _ => rfl
            | 12, hDj => exact absurd hDj (by rw [n12]; exact Bool.false_ne_true)
            | 13, _ => rfl
            | 14, _ => rfl
            | n + 15, _ => rfl
      | 6, ho, hD, hpre =>
        cases (show some _ = some oo' from ho)
        have e10 := ev_nfK (hV 2 10 rfl)
        have e13 := ev_nfK (hV 5 13 rfl)
        refine runsTo_mono11 (Q := fun uu w1 => w1 = x.now ∧ uu = (.agg #[.slice (some ⟨c.1, 0, none⟩) N N, .slice (some ⟨c.2.1, 0, none⟩) N N] : Value)) ?_ (fun uu w1 ⟨h1, hq⟩ => ⟨c, by subst h1; exact ⟨x.grows, by simpa using h2, by simpa using h5, by simpa using h7, by simpa using h11, by simpa using h13⟩, fun _ _ _ => rfl, .inr hq⟩)
        clear h2 h5 h7 h11 h13
        go_simp
        all_goals exact ⟨rfl, rfl⟩
      | 7, ho, hD, hpre =>
        cases (show some _ = some oo' from ho)
        have n7 : D 7 = false := hD
        have n12 : D 12 = false := by
          cases hd : D 12 with
          | false => rfl
          | true => exact absurd (hcl 12 7 hd (by kernel_rfl)) (by rw [n7]; exact Bool.false_ne_true)
        have n13 : D 13 = false := by
          cases hd : D 13 with
          | false => rfl
          | true => exact absurd (hcl 13 12 hd (by kernel_rfl)) (by rw [n12]; exact Bool.false_ne_true)
        have n14 : D 14 = false := by
          cases hd : D 14 with
          | false => rfl
          | true => exact absurd (hcl 14 13 hd (by kernel_rfl)) (by rw [n13]; exact Bool.false_ne_true)
        have h4 : Grows x.now (x.now.alloc (.map #[] 0)) := (Grows.refl _).new _
        refine runsTo_mono11 (Q := fun uu w1 => w1 = x.now.alloc (.map #[] 0) ∧ uu = (.map (some x.now.heap.size) : Value)) ?_ (fun uu w1 hq => ?_)
        · clear h2 h5 h7 h11 h13
          go_simp
          all_goals exact ⟨rfl, rfl⟩
        · obtain ⟨h8, h1⟩ := hq
          subst h8
          refine ⟨(c.1, c.2.1, x.now.heap.size, c.2.2.2), ⟨x.grows.trans h4, fun hd => ?_, fun hd => ?_, fun _ => ?_, fun hd => ?_, fun hd => absurd hd (by simp [n13])⟩, fun j _ hDj => ?_, .inr h1⟩
          · obtain ⟨z1, z2⟩ := h2 (by simpa using hd)
            exact ⟨z1.grow h4, z2⟩
          · obtain ⟨z1, z2⟩ := h5 (by simpa using hd)
            exact ⟨z1.grow h4, z2⟩
          · exact ⟨MapPV.made _, x.size⟩
          · obtain ⟨z1, z2⟩ := h11 (by simpa using hd)
            exact ⟨z1.grow h4, z2⟩
          · match j, hDj with
            | 0, _ => rfl
            | 1, _ => rfl
            | 2, _ => rfl
            | 3, _ => rfl
            | 4, _ => rfl
            | 5, _ => rfl
            | 6, _ => rfl
            | 7, hDj => exact absurd hDj (by rw [n7]; exact Bool.false_ne_true)
            | 8, _ => rfl
            | 9, _ => rfl
            | 10, _ => rfl
            | 11, _ => rfl
            | 12, hDj => exact absurd hDj (by rw [n12]; exact Bool.false_ne_true)
            | 13, _ => rfl
            | 14, _ => rfl
            | n + 15, _ => rfl
      | 8, ho, hD, hpre =>
        cases (show some _ = some oo' from ho)
        have e3 := ev_nfK ((hO 3 (notDstK (by kernel_rfl))).trans rfl)
        refine runsTo_mono11 (Q := fun uu w1 => w1 = x.now ∧ uu = (.agg #[.int .i64 (hops : Int), .int .i64 (settles : Int), rk] : Value)) ?_ (fun uu w1 ⟨h1, hq⟩ => ⟨c, by subst h1; exact ⟨x.grows, by simpa using h2, by simpa using h5, by simpa using h7, by simpa using h11, by simpa using h13⟩, fun _ _ _ => rfl, .inr hq⟩)
        clear h2 h5 h7 h11 h13
        go_simp
        all_goals exact ⟨rfl, rfl⟩
      | 9, ho, hD, hpre =>
        cases (show some _ = some oo' from ho)
        have e2 := ev_nfK ((hO 2 (notDstK (by kernel_rfl))).trans rfl)
        refine runsTo_mono11 (Q := fun uu w1 => w1 = x.now ∧ uu = (.pointer (some ⟨b0, 0, none⟩) : Value)) ?_ (fun uu w1 ⟨h1, hq⟩ => ⟨c, by subst h1; exact ⟨x.grows, by simpa using h2, by simpa using h5, by simpa using h7, by simpa using h11, by simpa using h13⟩, fun _ _ _ => rfl, .inr hq⟩)
        clear h2 h5 h7 h11 h13
        go_simp
        all_goals exact ⟨rfl, rfl⟩
      | 10, ho, hD, hpre =>
        cases (show some _ = some oo' from ho)
        have e17 := ev_nfK (hV 9 17 rfl)
        refine runsTo_mono11 (Q := fun uu w1 => w1 = x.now ∧ uu = (.int .i64 (N : Int) : Value)) ?_ (fun uu w1 ⟨h1, hq⟩ => ⟨c, by subst h1; exact ⟨x.grows, by simpa using h2, by simpa using h5, by simpa using h7, by simpa using h11, by simpa using h13⟩, fun _ _ _ => rfl, .inr hq⟩)
        clear h2 h5 h7 h11 h13
        go_simp
        all_goals exact ⟨rfl, rfl⟩
      | 11, ho, hD, hpre =>
        cases (show some _ = some oo' from ho)
        have e18 := ev_nfK (hV 10 18 rfl)
        have n11 : D 11 = false := hD
        have n12 : D 12 = false := by
          cases hd : D 12 with
          | false => rfl
          | true => exact absurd (hcl 12 11 hd (by kernel_rfl)) (by rw [n11]; exact Bool.false_ne_true)
        have n13 : D 13 = false := by
          cases hd : D 13 with
          | false => rfl
          | true => exact absurd (hcl 13 12 hd (by kernel_rfl)) (by rw [n12]; exact Bool.false_ne_true)
        have n14 : D 14 = false := by
          cases hd : D 14 with
          | false => rfl
          | true => exact absurd (hcl 14 13 hd (by kernel_rfl)) (by rw [n13]; exact Bool.false_ne_true)
        have h4 : Grows x.now (x.now.alloc (.cells (List.replicate N (Value.int .i64 0)).toArray 3)) := (Grows.refl _).new _
        refine runsTo_mono11 (Q := fun uu w1 => w1 = x.now.alloc (.cells (List.replicate N (Value.int .i64 0)).toArray 3) ∧ uu = (.slice (some ⟨x.now.heap.size, 0, none⟩) N N : Value)) ?_ (fun uu w1 hq => ?_)
        · clear h2 h5 h7 h11 h13
          go_simp
          all_goals exact ⟨rfl, rfl⟩
        · obtain ⟨h8, h1⟩ := hq
          subst h8
          refine ⟨(c.1, c.2.1, c.2.2.1, x.now.heap.size, c.2.2.2.2), ⟨x.grows.trans h4, fun hd => ?_, fun hd => ?_, fun hd => ?_, fun _ => ?_, fun hd => absurd hd (by simp [n13])⟩, fun j _ hDj => ?_, .inr h1⟩
          · obtain ⟨z1, z2⟩ := h2 (by simpa using hd)
            exact ⟨z1.grow h4, z2⟩
          · obtain ⟨z1, z2⟩ := h5 (by simpa using hd)
            exact ⟨z1.grow h4, z2⟩
          · obtain ⟨z1, z2⟩ := h7 (by simpa using hd)
            exact ⟨z1.grow h4, z2⟩
          · exact ⟨Arr.make _ _ _, x.size⟩
          · match j, hDj with
            | 0, _ => rfl
            | 1, _ => rfl
            | 2, _ => rfl
            | 3, _ => rfl
            | 4, _ => rfl
            | 5, _ => rfl
            | 6, _ => rfl
            | 7, _ => rfl
            | 8, _ => rfl
            | 9, _ => rfl
            | 10, _ => rfl
            | 11, hDj => exact absurd hDj (by rw [n11]; exact Bool.false_ne_true)
            | 12, hDj => exact absurd hDj (by rw [n12]; exact Bool.false_ne_true)
            | 13, _ => rfl
            | 14, _ => rfl
            | n + 15, _ => rfl
      | 12, ho, hD, hpre =>
        cases (show some _ = some oo' from ho)
        have e14 := ev_nfK (hV 6 14 rfl)
        have e15 := ev_nfK (hV 7 15 rfl)
        have e16 := ev_nfK (hV 8 16 rfl)
        have e19 := ev_nfK (hV 11 19 rfl)
        refine runsTo_mono11 (Q := fun uu w1 => w1 = x.now ∧ uu = (.agg #[.slice (some ⟨c.1, 0, none⟩) N N, .slice (some ⟨c.2.1, 0, none⟩) N N, .map (some c.2.2.1), .slice none 0 0, .int .i64 (hops : Int), .int .i64 (settles : Int), rk, .slice (some ⟨c.2.2.2.1, 0, none⟩) N N] : Value)) ?_ (fun uu w1 ⟨h1, hq⟩ => ⟨c, by subst h1; exact ⟨x.grows, by simpa using h2, by simpa using h5, by simpa using h7, by simpa using h11, by simpa using h13⟩, fun _ _ _ => rfl, .inr hq⟩)
        clear h2 h5 h7 h11 h13
        go_simp
        all_goals exact ⟨rfl, rfl⟩
      | 13, ho, hD, hpre =>
        cases (show some _ = some oo' from ho)
        have e20 := ev_nfK (hV 12 20 rfl)
        have n13 : D 13 = false := hD
        have n14 : D 14 = false := by
          cases hd : D 14 with
          | false => rfl
          | true => exact absurd (hcl 14 13 hd (by kernel_rfl)) (by rw [n13]; exact Bool.false_ne_true)
        have h4 : Grows x.now (x.now.alloc (.cells #[.slice (some ⟨c.1, 0, none⟩) N N, .slice (some ⟨c.2.1, 0, none⟩) N N, .map (some c.2.2.1), .slice none 0 0, .int .i64 (hops : Int), .int .i64 (settles : Int), rk, .slice (some ⟨c.2.2.2.1, 0, none⟩) N N] 150)) := (Grows.refl _).new _
        refine runsTo_mono11 (Q := fun uu w1 => w1 = x.now.alloc (.cells #[.slice (some ⟨c.1, 0, none⟩) N N, .slice (some ⟨c.2.1, 0, none⟩) N N, .map (some c.2.2.1), .slice none 0 0, .int .i64 (hops : Int), .int .i64 (settles : Int), rk, .slice (some ⟨c.2.2.2.1, 0, none⟩) N N] 150) ∧ uu = (.pointer (some ⟨x.now.heap.size, 0, none⟩) : Value)) ?_ (fun uu w1 hq => ?_)
        · clear h2 h5 h7 h11 h13
          go_simp
          all_goals exact ⟨rfl, rfl⟩
        · obtain ⟨h8, h1⟩ := hq
          subst h8
          refine ⟨(c.1, c.2.1, c.2.2.1, c.2.2.2.1, x.now.heap.size), ⟨x.grows.trans h4, fun hd => ?_, fun hd => ?_, fun hd => ?_, fun hd => ?_, fun _ => ?_⟩, fun j _ hDj => ?_, .inr h1⟩
          · obtain ⟨z1, z2⟩ := h2 (by simpa using hd)
            exact ⟨z1.grow h4, z2⟩
          · obtain ⟨z1, z2⟩ := h5 (by simpa using hd)
            exact ⟨z1.grow h4, z2⟩
          · obtain ⟨z1, z2⟩ := h7 (by simpa using hd)
            exact ⟨z1.grow h4, z2⟩
          · obtain ⟨z1, z2⟩ := h11 (by simpa using hd)
            exact ⟨z1.grow h4, z2⟩
          · exact ⟨Arr.make _ _ _, x.size⟩
          · match j, hDj with
            | 0, _ => rfl
            | 1, _ => rfl
            | 2, _ => rfl
            | 3, _ => rfl
            | 4, _ => rfl
            | 5, _ => rfl
            | 6, _ => rfl
            | 7, _ => rfl
            | 8, _ => rfl
            | 9, _ => rfl
            | 10, _ => rfl
            | 11, _ => rfl
            | 12, _ => rfl
            | 13, hDj => exact absurd hDj (by rw [n13]; exact Bool.false_ne_true)
            | 14, hDj => exact absurd hDj (by rw [n14]; exact Bool.false_ne_true)
            | n + 15, _ => rfl
      | 14, ho, hD, hpre =>
        cases (show some _ = some oo' from ho)
        have e21 := ev_nfK (hV 13 21 rfl)
        refine runsTo_mono11 (Q := fun uu w1 => w1 = x.now ∧ uu = (.pointer (some ⟨c.2.2.2.2, 0, none⟩) : Value)) ?_ (fun uu w1 ⟨h1, hq⟩ => ⟨c, by subst h1; exact ⟨x.grows, by simpa using h2, by simpa using h5, by simpa using h7, by simpa using h11, by simpa using h13⟩, fun _ _ _ => rfl, .inr hq⟩)
        clear h2 h5 h7 h11 h13
        go_simp
        all_goals exact ⟨rfl, rfl⟩
      | n + 15, ho, hD, hpre => cases ho
  case he =>
    subst hVV
    intro c wz hM
    obtain ⟨hgz, h2, h5, h7, h11, h13⟩ := hM
    obtain ⟨r1, l1⟩ := h2 rfl
    obtain ⟨r2, l2⟩ := h5 rfl
    obtain ⟨r3, l3⟩ := h7 rfl
    obtain ⟨r4, l4⟩ := h11 rfl
    obtain ⟨r5, l5⟩ := h13 rfl
    have hX : CoreX wz ⟨c.2.2.2.2, c.1, c.2.1, c.2.2.1, c.2.2.2.1, N, hops, settles, rk⟩ ⟨none, 0, fun _ => none, fun _ => 0, fun _ => 0⟩ (fun _ => True) (ctr0 N) 0 0 [] := by
      refine ⟨by simp [ctr0], by simp [ctr0], by simp [ctr0], r5, ?_, ?_, ?_, ?_, Own.nil _ _ _ _, fun x hx _ => ?_, fun x hx p hp => by simp at hp, fun x y p q hx hy hne hp => by simp at hp⟩
      · have e : (List.range N).map (CoreRw.hdr ⟨none, 0, fun _ => none, fun _ => 0, fun _ => 0⟩) = List.replicate N (Value.slice none 0 0) := by
          apply List.ext_getElem?
          intro k
          by_cases hk : k < N
          · simp [hk, CoreRw.hdr]
          · simp [hk]
        rw [e]
        exact r1
      · have e : (ctr0 N).G.map Value.bool = List.replicate N (Value.bool false) := by simp [ctr0]
        rw [e]
        exact r2
      · have e : nv (ctr0 N).D = List.replicate N (Value.int .i64 0) := by simp [ctr0, nv]
        rw [e]
        exact r4
      · have e : mpC (ctr0 N).at_ = fun _ _ => none := by
          funext p q
          simp [mpC, ctr0]
        rw [e]
        exact r3
      · have e : ga (ctr0 N).O x = [] := by simp [ctr0, ga, hx]
        rw [e]
        exact ⟨rfl, Own.nil _ _ _ _⟩
    have hgw : Grows w wz := y1.grows.trans hgz
    have hlow : ∀ k, CoreBl ⟨c.2.2.2.2, c.1, c.2.1, c.2.2.1, c.2.2.2.1, N, hops, settles, rk⟩ ⟨none, 0, fun _ => none, fun _ => 0, fun _ => 0⟩ k → New w wz k := fun k hk => by
      have h1 := hX.bl_lt k hk
      have h2 := y1.size
      refine ⟨?_, h1⟩
      rcases hk with rfl | rfl | rfl | rfl | rfl | ⟨p, hp, _⟩ | ⟨x, _, p, hp, _⟩
      · exact Nat.le_trans h2 l5
      · exact Nat.le_trans h2 l1
      · exact Nat.le_trans h2 l2
      · exact Nat.le_trans h2 l3
      · exact Nat.le_trans h2 l4
      · cases hp
      · cases hp
    have HC0 := hide (show CoreAt wz (New w wz) ⟨c.2.2.2.2, c.1, c.2.1, c.2.2.1, c.2.2.2.1, N, hops, settles, rk⟩ (ctr0 N) from ⟨_, hX, hlow⟩)
    clear h2 h5 h7 h11 h13 r1 r2 r3 r4 r5 l1 l2 l3 l4 l5 hX hlow
    obtain ⟨P, hP⟩ : ∃ P : CorePl, P = ⟨c.2.2.2.2, c.1, c.2.1, c.2.2.1, c.2.2.2.1, N, hops, settles, rk⟩ := ⟨_, rfl⟩
    rw [← hP] at HC0
    have hPb : c.2.2.2.2 = P.b := by rw [hP]
    have HPN := hide (show P.N = N ∧ P.hops = hops ∧ P.settles = settles ∧ P.rk = rk by rw [hP]; exact ⟨rfl, rfl, rfl, rfl⟩)
    simp only [putAll, dstOf, List.length_cons, List.length_nil, Nat.reduceAdd, List.getElem?_cons_zero, List.getElem?_cons_succ, Option.bind_some, List.getD_cons_zero, List.getD_cons_succ, Act.put, List.setIfInBounds_toArray, List.set_cons_zero, List.set_cons_succ]
    rw [hPb]
    clear hP hPb
    have a2z := (a2.grow hgz)
    obtain ⟨yz, rfl⟩ := hgw.later
    clear hgz a3
    clear HB0
    go_wp2_with fail
    go_loopw [25] (fun s wr => ∃ k : Nat, k ≤ E.length ∧ s = .int .i64 (k : Int) ∧ ∃ y : Later w, wr = y.now ∧ CoreAt y.now (New w y.now) P (Ctr.edges E k (ctr0 N))) (fun s _ => E.length - (Go.RowKit.intOf s).toNat)
    case atStart => exact ⟨0, by omega, by go_num, yz, rfl, HC0.out⟩
    case round =>
      obtain ⟨k, hk, rfl, y, rfl, hcy⟩ := hrel
      have HCY := hide hcy
      clear hcy HC0
      by_cases hlt : k < E.length
      · obtain ⟨b, off, rfl, hcc⟩ := HR.out.edgesH (by omega)
        obtain ⟨q1, q2, q3⟩ := hcc k hlt
        have c1 := Holds.mk (y.grows.keeps q1.cell)
        have c2 := Holds.mk (y.grows.keeps q2.cell)
        have c3 := Holds.mk (y.grows.keeps q3.cell)
        clear hcc q1 q2 q3
        obtain ⟨e1, e2, e3, e4, e5, e6, e7⟩ := HE.out k hlt
        obtain ⟨g1, g2, g3, g4⟩ := HEN.out k (by omega)
        have hPN := HPN.out.1
        have CAD := hide (fun (W : World) (hg : Grows y.now W) => coAdd P (Ctr.edges E k (ctr0 N)) (fN E k) (tN E k) (ge E k).w.toNat (k : Int) (-1) (-1) (New w y.now) W (HCY.out.grow hg) (fun j hj => Nat.lt_of_lt_of_le hj.2 hg.size) (by rw [hPN]; exact g1) (by omega) (by omega) (by omega) (by omega) (Nat.le_trans (g3 _) (by omega)) (by omega) ⟨by omega, by omega⟩ ⟨by decide, by decide⟩ ⟨by decide, by decide⟩)
        have HEX := hide (show Ctr.edges E (k + 1) (ctr0 N) = (Ctr.edges E k (ctr0 N)).add ⟨fN E k, tN E k, (ge E k).w.toNat, (k : Int), -1, -1⟩ from rfl)
        rw [e1] at c1
        rw [e2] at c2
        rw [e3] at c3
        unfold scVal at CAD
        dsimp only at CAD
        clear e1 e2 e3 e4 e5 e6 e7 g1 g2 g3 g4 hPN
        generalize fN E k = f at *
        generalize tN E k = t at *
        generalize (ge E k).w.toNat = wt at *
        generalize Ctr.edges E k (ctr0 N) = ck at *
        go_wp2_with (go_at_call 112; refine (CAD.out _ GG).mono ?_; rintro e w2 ⟨rfl, hc2, ht2⟩; have HG2 := hide (ht2.later (show Grows w _ from GG) (fun j hj => hj.1)); have HC2 := hide (hc2.mono (S' := New w w2) (fun j hj => by
          rcases hj with ⟨h1, h2⟩ | ⟨h1, h2⟩
          · exact ⟨h1, Nat.lt_of_lt_of_le h2 (Nat.le_trans (show Grows y.now _ from GG).size ht2.size)⟩
          · exact ⟨Nat.le_trans (show Grows w _ from GG).size h1, h2⟩)); clear hc2 ht2)
        obtain ⟨y3, rfl⟩ := HG2.out.later
        exact ⟨⟨k + 1, by omega, by go_num, y3, rfl, by rw [HEX.out]; exact HC2.out⟩, by simp [Go.RowKit.intOf]; omega⟩
      · obtain rfl : k = E.length := by omega
        go_wp2_with fail
        go_ret
        exact ⟨P, rfl, HPN.out.1, HPN.out.2.1, HPN.out.2.2.1, HPN.out.2.2.2, HCY.out, y.grows⟩
end Go.Proofs.Ytgplpgldhoelcaa

namespace Go.Proofs.Ytgplpgldhoelcaa
open Go Go.RowKit
attribute [local go_sem] Oper.semAt_some
def GiveKp (w : World) (K : List Kp) (e : Ending) (w' : World) : Prop :=
  ∃ Al cl Au cu, e = .returned (.tuple #[.slice Al K.length cl, .slice Au K.length cu]) ∧ Own w' w.heap.size 40 2 Al K.length cl (its (kpI K)) ∧ Own w' w.heap.size 3 1 Au K.length cu ((kpU K).map (.int .i64)) ∧ Grows w w'
set_option maxRecDepth 40000 in
set_option maxHeartbeats 16000000 in
theorem coKept (Ao Ag : Option Addr) (co cg v hops settles : Nat) (rk : Value) (O : NetO) (G : List Bool) (w : World) (h : NetRd w Ao Ag O G) (hin : NIn O) (hv : v < O.length) (hN : O.length ≤ 4096) (hW : ∀ v a, a ∈ ga O v → a.2 ≤ 1152921504606846976) (hlen : ∀ v, (ga O v).length ≤ 100000) (hh : hops ≤ 1000) (hs : settles ≤ 1000) :
    Calls Try.prog 38 #[.agg #[.slice Ao O.length co, .slice Ag O.length cg], .int .i64 (v : Int), .agg #[.int .i64 (hops : Int), .int .i64 (settles : Int), rk]] w (GiveKp w (keptL O G hops settles v)) := by
  obtain ⟨bo, oo, rfl, bg, og, rfl, hg⟩ := h.base (by omega)
  have hgr : Rd w (some ⟨bg, og, none⟩) 1 O.length (G.map .bool) := h.2
  have hgl : G.length = O.length := by have := hgr.len; simpa using this
  have HNET := hide h
  have CLI := hide (fun (W : World) (g : Grows w W) => coLightest (some ⟨bo, oo, none⟩) (some ⟨bg, og, none⟩) co cg v O G W (h.grows g) hin hv hN hW hlen)
  have CCL := hide (fun (W : World) (g : Grows w W) => cloneBl (some ⟨bg, og, none⟩) O.length cg G W (hgr.grows g) (by omega))
  have HK : Hid (keptL O G hops settles v = kpAll O (G.set v true) hops settles (lightest O G v) O.length O.length) := rfl
  have HLE := hide (fun u a (h1 : (lightest O G v).1 u = some a) => show a ≤ 1152921504606846976 from hW u _ ((lgAll_ok O G v O.length).1.is u a h1).2.2.2)
  have HLF := hide (fun u a (h1 : (lightest O G v).2 u = some a) => show a ≤ 1152921504606846976 from hW v _ ((lgAll_ok O G v O.length).2.is u a h1).2.2.2)
  have HSE := hide (fun (gb cg2 : Nat) (x y below : Nat) (W : World) (hn : NetRd W (some ⟨bo, oo, none⟩) (some ⟨gb, 0, none⟩) O (G.set v true)) (hx : x < O.length) (hy : y < O.length) (hb : below ≤ 2305843009213693952) =>
    wtSearch (some ⟨bo, oo, none⟩) (some ⟨gb, 0, none⟩) co cg2 O (G.set v true) x y below hops settles W hn hin hx hy hN hW (fun v => Nat.le_trans (hlen v) (by omega)) hb hh hs)
  unfold GiveKp
  rw [HK.out]
  clear h hg hgr HK hW hlen hin
  generalize lightest O G v = tf at *
  obtain ⟨N, hNN⟩ : ∃ N, N = O.length := ⟨_, rfl⟩
  rw [← hNN] at CLI CCL HSE hv hN hgl ⊢
  have HN := hide hNN
  clear hNN
  obtain ⟨W1, hW1⟩ : ∃ W1, W1 = (w.alloc (.cells #[.slice (some ⟨bo, oo, none⟩) N co, .slice (some ⟨bg, og, none⟩) N cg] 34)).alloc (.cells #[.int .i64 (hops : Int), .int .i64 (settles : Int), rk] 37) := ⟨_, rfl⟩
  have hgw1 : Grows w W1 := by rw [hW1]; exact ((Grows.refl _).new _).new _
  have a3 : Arr W1 w.heap.size 34 [.slice (some ⟨bo, oo, none⟩) N co, .slice (some ⟨bg, og, none⟩) N cg] := by rw [hW1]; exact (Arr.make _ _ _).grow ((Grows.refl _).new _)
  have a5 : Arr W1 (w.heap.size + 1) 37 [.int .i64 (hops : Int), .int .i64 (settles : Int), rk] := by
    rw [hW1]
    have := Arr.make (w.alloc (.cells #[.slice (some ⟨bo, oo, none⟩) N co, .slice (some ⟨bg, og, none⟩) N cg] 34)) [.int .i64 (hops : Int), .int .i64 (settles : Int), rk] 37
    simpa using this
  have hz1 : Hid (W1.heap.size = w.heap.size + 1 + 1) := hide (by rw [hW1]; simp)
  go_enter Try.func38, Try.ntmps38
  go_upto_region 1 with fail
  rw [← hW1]
  clear hW1
  obtain ⟨b3, hb3⟩ : ∃ b, b = w.heap.size := ⟨_, rfl⟩
  rw [← hb3] at a3 a5 hz1 ⊢
  have HB3 := hide hb3
  clear hb3
  obtain ⟨y1, rfl⟩ := hgw1.later
  go_upto_region 3 with (first
    | (go_at_call 76; refine (CLI.out _ y1.grows).mono ?_; rintro e w' ⟨m1, m2, rfl, hm1, hm2, l1, l2, l3, hg⟩; obtain ⟨x1, rfl⟩ := hg.later; have HM1 := hide hm1; have HM2 := hide hm2; clear hg hm1 hm2)
    | (go_at_call 77; refine (CCL.out _ (y1.grows.trans x1.grows)).mono ?_; rintro e w' ⟨Ac, cc, rfl, ho, hg⟩; obtain ⟨x2, rfl⟩ := hg.later; have HOC := hide ho; clear hg ho))
  obtain ⟨gb, hAc, hgbl, hgc⟩ := HOC.out.at (by omega)
  subst hAc
  have hy1 := y1.size
  have hx1 := x1.size
  have hx2 := x2.size
  have hb3l := a3.lt
  have hb5l := a5.lt
  have hm1l := HM1.out.lt
  have hm2l := HM2.out.lt
  have HZ := hide (show b3 < y1.now.heap.size ∧ b3 + 1 < y1.now.heap.size ∧ x1.now.heap.size ≤ gb ∧ m1 < x1.now.heap.size ∧ m2 < x1.now.heap.size ∧ w.heap.size ≤ y1.now.heap.size ∧ y1.now.heap.size ≤ x1.now.heap.size from ⟨hb3l, hb5l, hgbl, hm1l, hm2l, hy1, hx1⟩)
  have hne : b3 ≠ gb := by omega
  have t4 : Touch (fun k => k = b3) x2.now (x2.now.setCell ⟨b3, 1, none⟩ (.slice (some ⟨gb, 0, none⟩) N cc)) := (Touch.refl (fun k => k = b3) x2.now).set (p := ⟨b3, 1, none⟩) (.inl rfl) _
  have o4 : Own (x2.now.setCell ⟨b3, 1, none⟩ (.slice (some ⟨gb, 0, none⟩) N cc)) x1.now.heap.size 4 1 (some ⟨gb, 0, none⟩) N cc (G.map .bool) := HOC.out.touch t4 (fun p hp e => by injection hp with hp; subst hp; exact hne e.symm)
  obtain ⟨_, e4, _, hgc4⟩ := o4.at (by omega)
  injection e4 with e4
  injection e4 with e4
  subst e4
  have mv := hgc4 v (.bool (bb G v)) (by simp [bb, show v < G.length by omega])
  have a34 : Arr (x2.now.setCell ⟨b3, 1, none⟩ (.slice (some ⟨gb, 0, none⟩) N cc)) b3 34 [.slice (some ⟨bo, oo, none⟩) N co, .slice (some ⟨gb, 0, none⟩) N cc] := ((a3.grow x1.grows).grow x2.grows).set 1 _
  have a54 : Arr (x2.now.setCell ⟨b3, 1, none⟩ (.slice (some ⟨gb, 0, none⟩) N cc)) (b3 + 1) 37 [.int .i64 (hops : Int), .int .i64 (settles : Int), rk] := ((a5.grow x1.grows).grow x2.grows).touch t4 (by omega)
  have HM14 := hide ((HM1.out.touch (x2.grows.touch (fun _ => False)) id).touch t4 (by omega))
  have HM24 := hide ((HM2.out.touch (x2.grows.touch (fun _ => False)) id).touch t4 (by omega))
  have hg4 : Grows w (x2.now.setCell ⟨b3, 1, none⟩ (.slice (some ⟨gb, 0, none⟩) N cc)) := t4.later (y1.grows.trans (x1.grows.trans x2.grows)) (fun k hk => by rw [hk, HB3.out]; exact Nat.le_refl _)
  clear hgc hgc4 HOC a3 a5 HM1 HM2 hb3l hb5l hm1l hm2l hy1 hx1 hx2 hgbl t4 CLI CCL
  generalize x2.now.setCell ⟨b3, 1, none⟩ (.slice (some ⟨gb, 0, none⟩) N cc) = W4 at *
  obtain ⟨y4, rfl⟩ := hg4.later
  go_upto_region 4 with fail
  have hvN : 0 < N := by omega
  have t5 : Touch (fun k => k = gb) y4.now (y4.now.setCell ⟨gb, v, none⟩ (.bool true)) := (Touch.refl (fun k => k = gb) y4.now).set (p := ⟨gb, v, none⟩) (.inl rfl) _
  have o5 := o4.set rfl hvN v (.bool true)
  have HZ2 := HZ.out
  have a35 := a34.touch t5 (by omega)
  have a55 := a54.touch t5 (by omega)
  have HM15 := hide (HM14.out.touch t5 (by omega))
  have HM25 := hide (HM24.out.touch t5 (by omega))
  have hg5 : Grows w (y4.now.setCell ⟨gb, v, none⟩ (.bool true)) := t5.later y4.grows (fun k hk => by rw [hk]; omega)
  have HN5 : Hid (NetRd (y4.now.setCell ⟨gb, v, none⟩ (.bool true)) (some ⟨bo, oo, none⟩) (some ⟨gb, 0, none⟩) O (G.set v true)) := hide ⟨(HNET.out.grows hg5).1, by
    have := o5.rd
    rw [← List.map_set, HN.out] at this
    exact this⟩
  clear o4 o5 mv a34 a54 HM14 HM24 hg4 t5 HZ2 HNET
  generalize y4.now.setCell ⟨gb, v, none⟩ (.bool true) = W5 at *
  obtain ⟨y5, rfl⟩ := hg5.later
  go_wp2_with fail
  have HMA := hide (fun (W : World) (g : Grows y5.now W) => HM15.out.touch (g.touch (fun _ => False)) id)
  have HMB := hide (fun (W : World) (g : Grows y5.now W) => HM25.out.touch (g.touch (fun _ => False)) id)
  clear HM15 HM25
  go_loopw [35, 6, 7] (fun s s6 s7 wr => ∃ u : Nat, u ≤ N ∧ s = .int .i64 (u : Int) ∧ ∃ K n, Hid (K = kpAll O (G.set v true) hops settles tf N u ∧ n = K.length) ∧ ∃ Al cl Au cu, s6 = .slice Al n cl ∧ s7 = .slice Au n cu ∧ ∃ y : Later y5.now, wr = y.now ∧ Own y.now y5.now.heap.size 40 2 Al n cl (its (kpI K)) ∧ Own y.now y5.now.heap.size 3 1 Au n cu ((kpU K).map (.int .i64))) (fun s _ _ _ => N - (Go.RowKit.intOf s).toNat)
  case atStart => exact ⟨0, by omega, by go_num, [], 0, hide ⟨rfl, rfl⟩, none, 0, none, 0, rfl, rfl, ⟨_, Grows.refl _⟩, rfl, Own.nil _ _ _ _, Own.nil _ _ _ _⟩
  case round =>
    obtain ⟨u, hu, rfl, K, n, HKK, Al, cl, Au, cu, rfl, rfl, y, rfl, ho1, ho2⟩ := hrel
    have HO1 := hide ho1
    have HO2 := hide ho2
    clear ho1 ho2
    by_cases hlt : u < N
    · have wk : I64 (u : Int) := ⟨by omega, by omega⟩
      have HNU := hide (show kpAll O (G.set v true) hops settles tf N (u + 1) = (match tf.1 u with | none => kpAll O (G.set v true) hops settles tf N u | some a => kpIn O (G.set v true) hops settles tf.2 u a N (kpAll O (G.set v true) hops settles tf N u)) from rfl)
      have HFU := hide (lmF_at tf.1 u)
      have HEA := hide (fun a (h : tf.1 u = some a) => HLE.out u a h)
      cases htu : tf.1 u with
      | none =>
        rw [htu] at HNU HFU
        clear htu HEA
        go_wp2_with (at_lookup; refine wp_mapGetOkU rfl _ _ rfl m1 1000000000 _ _ rfl (HMA.out _ y.grows) _ rfl wk ?_; rw [HFU.out])
        go_roundw
        case measure => simp [Go.RowKit.intOf]; omega
        case rel => exact ⟨u + 1, by omega, by go_num, K, n, hide ⟨HKK.out.1.trans HNU.out.symm, HKK.out.2⟩, Al, cl, Au, cu, rfl, rfl, y, rfl, HO1.out, HO2.out⟩
      | some a =>
        rw [htu] at HNU HFU
        have hab := HEA.out a htu
        clear htu HEA
        go_wp2_with (at_lookup; refine wp_mapGetOkU rfl _ _ rfl m1 1000000000 _ _ rfl (HMA.out _ y.grows) _ rfl wk ?_; rw [HFU.out])
        have hKl : n ≤ 4096 * 4096 := by
          have h1 := HKK.out
          have h2 := kpAll_len (O := O) (G := G.set v true) (hops := hops) (settles := settles) (N := N) (tf := tf) u
          rw [← h1.1, ← h1.2] at h2
          exact Nat.le_trans h2 (Nat.mul_le_mul (by omega) hN)
        have HNU2 := hide (show kpAll O (G.set v true) hops settles tf N (u + 1) = kpIn O (G.set v true) hops settles tf.2 u a N K from by rw [HKK.out.1]; exact HNU.out)
        have HNK := hide HKK.out.2
        clear HNU HKK
        go_loopw [49, 6, 7] (fun s s6 s7 wr => ∃ x : Nat, x ≤ N ∧ s = .int .i64 (x : Int) ∧ ∃ K' n', Hid (K' = kpIn O (G.set v true) hops settles tf.2 u a x K ∧ n' = K'.length) ∧ ∃ Al cl Au cu, s6 = .slice Al n' cl ∧ s7 = .slice Au n' cu ∧ ∃ y : Later y5.now, wr = y.now ∧ Own y.now y5.now.heap.size 40 2 Al n' cl (its (kpI K')) ∧ Own y.now y5.now.heap.size 3 1 Au n' cu ((kpU K').map (.int .i64))) (fun s _ _ _ => N - (Go.RowKit.intOf s).toNat)
        case atStart => exact ⟨0, by omega, by go_num, K, n, hide ⟨rfl, HNK.out⟩, Al, cl, Au, cu, rfl, rfl, y, rfl, HO1.out, HO2.out⟩
        case round =>
          obtain ⟨x, hx, rfl, K', n', HKK, Al, cl, Au, cu, rfl, rfl, z, rfl, ho1, ho2⟩ := hrel
          have HP1 := hide ho1
          have HP2 := hide ho2
          clear ho1 ho2 HO1 HO2
          have hKl' : n' ≤ 4096 * 4096 + 4096 := by
            have h1 := HKK.out
            have h2 := kpIn_len (O := O) (G := G.set v true) (hops := hops) (settles := settles) (fr := tf.2) (u := u) (a := a) (acc := K) x
            rw [← h1.1, ← h1.2] at h2
            have h3 := HNK.out
            omega
          by_cases hlx : x < N
          · have wx : I64 (x : Int) := ⟨by omega, by omega⟩
            have HNX := hide (show kpIn O (G.set v true) hops settles tf.2 u a (x + 1) K = kpW O (G.set v true) hops settles tf.2 u a x K' from by rw [HKK.out.1]; rfl)
            have HFX := hide (lmF_at tf.2 x)
            have HEB := hide (fun b (h : tf.2 x = some b) => HLF.out x b h)
            have HLN := hide HKK.out.2
            unfold kpW at HNX
            cases htx : tf.2 x with
            | none =>
              rw [htx] at HNX HFX
              clear htx HEB
              go_wp2_with (at_lookup; refine wp_mapGetOkU rfl _ _ rfl m2 1000000000 _ _ rfl (HMB.out _ z.grows) _ rfl wx ?_; rw [HFX.out])
              go_roundw
              case measure => simp [Go.RowKit.intOf]; omega
              case rel => exact ⟨x + 1, by omega, by go_num, K', n', hide ⟨HNX.out.symm, HLN.out⟩, Al, cl, Au, cu, rfl, rfl, z, rfl, HP1.out, HP2.out⟩
            | some b =>
              rw [htx] at HNX HFX
              have hbb := HEB.out b htx
              clear htx HEB
              simp only at HNX
              by_cases hux : u = x
              · have huxb : ((u : Int) == (x : Int)) = true := by subst hux; simp
                rw [if_pos hux] at HNX
                clear hux
                go_wp2_with (at_lookup; refine wp_mapGetOkU rfl _ _ rfl m2 1000000000 _ _ rfl (HMB.out _ z.grows) _ rfl wx ?_; rw [HFX.out])
                go_roundw
                case measure => simp [Go.RowKit.intOf]; omega
                case rel => exact ⟨x + 1, by omega, by go_num, K', n', hide ⟨HNX.out.symm, HLN.out⟩, Al, cl, Au, cu, rfl, rfl, z, rfl, HP1.out, HP2.out⟩
              · have huxb : ((u : Int) == (x : Int)) = false := beq_eq_false_iff_ne.2 (by omega)
                rw [if_neg hux] at HNX
                obtain ⟨sm, hsm⟩ : ∃ s : Nat, s = a + b := ⟨_, rfl⟩
                have hwr : IntKind.u64.wrap ((a : Int) + (b : Int)) = (sm : Int) := by rw [hsm]; exact IntWalk.u64_in _ (by omega)
                have CSE := hide (HSE.out gb cc u x sm z.now (HN5.out.grows z.grows) hlt hlx (by omega))
                rw [← hsm] at HNX
                unfold wsV at CSE
                clear hux hsm
                cases hf : wsFind O (G.set v true) u x sm hops settles with
                | some d =>
                  rw [hf] at CSE HNX
                  rw [if_pos (show (some d).isSome = true from rfl)] at HNX
                  clear hf
                  go_wp2_with (first
                    | (at_lookup; refine wp_mapGetOkU rfl _ _ rfl m2 1000000000 _ _ rfl (HMB.out _ z.grows) _ rfl wx ?_; rw [HFX.out])
                    | (go_at_call 78; refine (CSE.out).mono ?_; rintro e w' ⟨rfl, hg⟩; obtain ⟨z2, rfl⟩ := hg.later; clear hg))
                  obtain ⟨z3, hz3⟩ := (z.grows.trans z2.grows).later
                  refine ⟨⟨x + 1, by omega, by go_num, K', n', hide ⟨HNX.out.symm, HLN.out⟩, Al, cl, Au, cu, rfl, rfl, z3, hz3, ?_, ?_⟩, by simp [Go.RowKit.intOf]; omega⟩
                  · rw [← hz3]; exact HP1.out.grows z2.grows
                  · rw [← hz3]; exact HP2.out.grows z2.grows
                | none =>
                  rw [hf] at CSE HNX
                  rw [if_neg (show ¬ (none : Option Nat).isSome = true from by simp)] at HNX
                  clear hf
                  have HI1 := hide (show its (kpI (K' ++ [(u, x, sm)])) = its (kpI K') ++ [.int .i64 (x : Int), .int .u64 (sm : Int)] from by unfold kpI; rw [List.map_append, List.map_singleton, its_app]; rfl)
                  have HI2 := hide (show (kpU (K' ++ [(u, x, sm)])).map (Value.int .i64) = (kpU K').map (.int .i64) ++ [.int .i64 (u : Int)] from by unfold kpU; rw [List.map_append, List.map_append]; rfl)
                  go_wp2_with (first
                    | (at_lookup; refine wp_mapGetOkU rfl _ _ rfl m2 1000000000 _ _ rfl (HMB.out _ z.grows) _ rfl wx ?_; rw [HFX.out])
                    | (go_at_call 78; refine (CSE.out).mono ?_; rintro e w' ⟨rfl, hg⟩; obtain ⟨z2, rfl⟩ := hg.later; clear hg)
                    | (at_builtin; refine wp_app2K elemArc rfl _ _ rfl y5.now GG n' cl Al _ rfl (HP1.out.grows GG) _ _ _ _ rfl inferInstance inferInstance rfl rfl (by omega) ?_; intro A6 c6 z6 hown6 hgr6; have HO6 := hide hown6; have HO7 := hide ((show Own _ y5.now.heap.size 3 1 Au n' cu _ from HP2.out.grows GG).beside (HP1.out.grows GG) (by decide) hgr6); clear hown6 hgr6)
                    | (at_builtin; refine wp_app1M elemInt rfl _ _ rfl y5.now GG n' cu Au _ rfl (HO7.out.grows GG) _ _ _ rfl inferInstance rfl (by omega) ?_; intro A8 c8 z8 hown8 hgr8; have HO8 := hide hown8; have HO9 := hide ((show Own _ y5.now.heap.size 40 2 A6 (n' + 1) c6 _ from HO6.out.grows GG).beside (HO7.out.grows GG) (by decide) hgr8); clear hown8 hgr8))
                  go_roundw
                  case measure => simp [Go.RowKit.intOf]; omega
                  case rel => exact ⟨x + 1, by omega, by go_num, K' ++ [(u, x, sm)], n' + 1, hide ⟨HNX.out.symm, by rw [List.length_append, List.length_singleton, HLN.out]⟩, A6, c6, A8, c8, rfl, rfl, z8, rfl, by rw [HI1.out]; exact HO9.out, by rw [HI2.out]; exact HO8.out⟩
          · obtain rfl : N = x := by omega
            go_wp2_with fail
            go_roundw
            case measure => simp [Go.RowKit.intOf]; omega
            case rel => exact ⟨u + 1, by omega, by go_num, K', n', hide ⟨by rw [HNU2.out]; exact HKK.out.1, HKK.out.2⟩, Al, cl, Au, cu, rfl, rfl, z, rfl, HP1.out, HP2.out⟩
    · obtain rfl : N = u := by omega
      obtain ⟨e1, e2⟩ := HKK.out
      have HE1 := hide e1
      have HE2 := hide e2
      clear e1 e2
      go_wp2_with fail
      have hle := y5.size
      refine bodyPost_ret (v := .tuple #[.slice Al n cl, .slice Au n cu]) (by simp (maxDischargeDepth := 6) [results, Try.results38, go_sem, *]) rfl ?_
      rw [← HE1.out, ← HE2.out]
      exact ⟨Al, cl, Au, cu, rfl, HO1.out.base hle, HO2.out.base hle, y5.grows.trans y.grows⟩
end Go.Proofs.Ytgplpgldhoelcaa

namespace Go.Proofs.Ytgplpgldhoelcaa
open Go Go.RowKit
def dpS (v : Nat) (D : List Nat) (u : Nat) : List Nat := D.set u (max (gn D u) (gn D v + 1))
theorem dpS_at {v u x : Nat} {D : List Nat} (hx : x < D.length) : gn (dpS v D u) x = if x = u then max (gn D x) (gn D v + 1) else gn D x := by
  unfold dpS gn
  rw [List.getD_eq_getElem?_getD, List.getElem?_set]
  by_cases e : u = x
  · subst e; simp [hx]
  · simp [e, Ne.symm e]
def DpIs (D D' : List Nat) (v : Nat) (Q : Nat → Prop) : Prop := D'.length = D.length ∧ ∀ x, x < D.length → (Q x → gn D' x = max (gn D x) (gn D v + 1)) ∧ (¬ Q x → gn D' x = gn D x)
theorem DpIs.start (D : List Nat) (v : Nat) {Q : Nat → Prop} (h : ∀ x, ¬ Q x) : DpIs D D v Q := ⟨rfl, fun x _ => ⟨fun hq => absurd hq (h x), fun _ => rfl⟩⟩
theorem DpIs.congr {D D' : List Nat} {v : Nat} {Q Q' : Nat → Prop} (h : DpIs D D' v Q) (he : ∀ x, x < D.length → (Q x ↔ Q' x)) : DpIs D D' v Q' :=
  ⟨h.1, fun x hx => ⟨fun hq => (h.2 x hx).1 ((he x hx).2 hq), fun hq => (h.2 x hx).2 (fun e => hq ((he x hx).1 e))⟩⟩
theorem DpIs.put {D D' : List Nat} {v u : Nat} {Q : Nat → Prop} (h : DpIs D D' v Q) (hv : v < D.length) (hqv : ¬ Q v) : DpIs D (dpS v D' u) v (fun x => Q x ∨ x = u) := by
  refine ⟨by simpa [dpS] using h.1, fun x hx => ?_⟩
  have e := dpS_at (v := v) (u := u) (x := x) (D := D') (by rw [h.1]; exact hx)
  have e2 := (h.2 v hv).2 hqv
  rw [e2] at e
  obtain ⟨h3, h4⟩ := h.2 x hx
  constructor
  · intro hq
    rw [e]
    by_cases ex : x = u
    · rw [if_pos ex]
      by_cases hqx : Q x
      · rw [h3 hqx]; omega
      · rw [h4 hqx]
    · rw [if_neg ex]
      exact h3 (hq.resolve_right ex)
  · intro hq
    rw [e, if_neg (fun ex => hq (.inr ex))]
    exact h4 (fun hqx => hq (.inl hqx))
theorem DpIs.deep {D D' : List Nat} {v : Nat} {tf : LM × LM} (h : DpIs D D' v (fun x => (tf.1 x).isSome = true ∨ (tf.2 x).isSome = true)) : D' = deepL D tf v := by
  apply List.ext_getElem?
  intro x
  have hl := h.1
  by_cases hx : x < D.length
  · have e2 : D'[x]? = some (gn D' x) := by
      unfold gn
      rw [List.getD_eq_getElem?_getD, List.getElem?_eq_getElem (by omega)]
      rfl
    have e3 : (deepL D tf v)[x]? = some (if (tf.1 x).isSome = true ∨ (tf.2 x).isSome = true then max (gn D x) (gn D v + 1) else gn D x) := by
      unfold deepL
      rw [List.getElem?_map, List.getElem?_range hx]
      rfl
    rw [e2, e3]
    obtain ⟨h3, h4⟩ := h.2 x hx
    by_cases hq : (tf.1 x).isSome = true ∨ (tf.2 x).isSome = true
    · rw [if_pos hq, h3 hq]
    · rw [if_neg hq, h4 hq]
  · rw [List.getElem?_eq_none (by omega), List.getElem?_eq_none (by simp [deepL]; omega)]
end Go.Proofs.Ytgplpgldhoelcaa

