/- Contract: a Dag is made, by the program. -/
import Derived.Test.YtomednfddpggaaaGreatQDagLooks16
import Derived.Test.YtomednfddpggaaaGreatQDagLooks17
import Derived.Test.YtomednfddpggaaaGreatQDagLooks18
import Derived.Test.YtomednfddpggaaaGreatQDagLooks19
import Derived.Test.YtomednfddpggaaaGreatQDagLooks04
import Derived.Test.YtomednfddpggaaaGreatQDagLooks03
import Derived.Sort.OwnSortedInts
import Derived.Test.YtomednfddpggaaaGreatQDagLooks09
import Derived.Test.YtomednfddpggaaaGreatQDagLooks05
/- Contract: a Dag is made, by the program. -/
namespace Go.Proofs.YtomednfddpggaaaGreat
open Go Go.RowKit
attribute [local go_sem] Oper.semAt_some
def BkF (N : Nat) (E : List Edg) (t : Nat) : List Nat := refL (srchOf N E bkO) t
theorem djAllB (N t : Nat) (A : Option Addr) (c : Nat) (E : List Edg) (w : World) (h : Rd w A 3 E.length (esCells E)) (hr : rightF N E = 0) (ht : t < N) :
    Calls Tryz.prog 34 #[.agg #[.int .i64 (N : Int), .slice A E.length c], .int .i64 (t : Int), .agg #[.bool true, .slice none 0 0, .slice none 0 0, .slice none 0 0, .int .u64 0]] w fun e w' => ∃ go, e = .returned (.tuple #[.slice (some ⟨go, 0, none⟩) N N, .int .i64 0]) ∧ Row1 w' go 38 1 N N (wv (BkF N E t)) ∧ Grows w w' := by
  have hok := bk_ok (E := E) hr ht
  obtain ⟨xs, h1, h2, _, h4, _⟩ := walk_ref hok (fun i hi => noO_w hr i hi)
  have h0 : Rd w none 1 0 [] := ⟨by simp, fun h => absurd h (by simp)⟩
  have hw0 : Rd w none 1 0 (wv []) := ⟨by simp [wv], fun h => absurd h (by simp)⟩
  refine (djAll N t A c E bkO none none none 0 0 0 xs w h h0 h0 hw0 hok (dc_none hr ht) h1 h2).mono ?_
  rintro e w' ⟨go, rfl, h5, _, hg⟩
  unfold BkF
  rw [h4]
  exact ⟨go, rfl, h5, hg⟩
def OlOk (N : Nat) (E : List Edg) (s m : Nat) (ol : List Int) : Prop := ol.Nodup ∧ (∀ v, v ∈ ol → 0 ≤ v ∧ v < N) ∧ ∀ v, v < N → dF N E s v ≤ m → (v : Int) ∈ ol
theorem djOrderM (N s m : Nat) (A : Option Addr) (c : Nat) (E : List Edg) (hr : rightF N E = 0) (hs : s < N) (hm : 0 < m) (hm2 : m < farV) :
    ∃ ol, OlOk N E s m ol ∧ ∀ w, Rd w A 3 E.length (esCells E) → Calls Tryz.prog 35 #[.agg #[.int .i64 (N : Int), .slice A E.length c], .int .i64 (s : Int), .agg #[.bool false, .slice none 0 0, .slice none 0 0, .slice none 0 0, .int .u64 (m : Int)]] w fun e w' =>
      ∃ A' c', e = .returned (.tuple #[.slice A' ol.length c', .int .i64 0]) ∧ Rd w' A' 1 ol.length (ol.map (.int .i64)) ∧ (∀ p, A' = some p → w.heap.size ≤ p.block) ∧ Grows w w' := by
  have hok : WalkOk N s E (⟨false, [], [], [], m⟩ : DOpt) := ⟨hr, hs, .inl rfl, by show m < _; unfold farV at hm2; omega, by show ([] : List Int).length ≤ _; simp, by show ([] : List Int).length ≤ _; simp⟩
  obtain ⟨xs, h1, h2, h3⟩ := walk_is hok (fun i hi => noO_w hr i hi) (Nat.le_refl _) (by simp)
  have hN : N ≤ 4096 := by have := (right_in hr).1; have := (right_in hr).2.1; omega
  have hxl : xs.length ≤ 1000000 := by
    have h6 : (xs.map Prod.fst).length ≤ (List.range N).length := List.Nodup.length_le_of_subset h2.nodup (fun v hv => by
      obtain ⟨p, hp, rfl⟩ := List.mem_map.1 hv
      exact List.mem_range.2 (h3 p hp))
    simp at h6
    omega
  have hol : (ordL xs).length = xs.length := by simp [ordL]
  refine ⟨ordL xs, ⟨?_, ?_, ?_⟩, fun w h => ?_⟩
  · have e : ordL xs = (xs.map Prod.fst).map fun (v : Nat) => (v : Int) := by simp [ordL]
    rw [e]
    have h9 : List.Pairwise (fun a b : Nat => a ≠ b) (xs.map Prod.fst) := h2.nodup
    show List.Pairwise (fun a b : Int => a ≠ b) _
    refine List.pairwise_map.2 (List.Pairwise.imp (R := fun a b : Nat => a ≠ b) ?_ h9)
    intro a b hab h
    exact hab (by omega)
  · intro v hv
    obtain ⟨p, hp, rfl⟩ := List.mem_map.1 hv
    have := h3 p hp
    omega
  · intro v hv hd
    have hw := dF_way hr hs hv (by omega)
    have hw2 : ∀ {u f}, Way (fX N E) s u f → Way (srchOf N E (⟨false, [], [], [], m⟩ : DOpt)) s u f := fun {u f} h => by
      induction h with
      | here => exact .here
      | @step f j h hj hc ih => exact Way.step (x := srchOf N E (⟨false, [], [], [], m⟩ : DOpt)) ih hj (by simp [cntE, srchOf])
    obtain ⟨g, hg, _⟩ := h2.all v _ (hw2 hw) (fun _ => hd)
    exact List.mem_map.2 ⟨(v, g), hg, rfl⟩
  · have h0 : Rd w none 1 0 [] := ⟨by simp, fun h => absurd h (by simp)⟩
    have hw0 : Rd w none 1 0 (wv []) := ⟨by simp [wv], fun h => absurd h (by simp)⟩
    refine (djOrderF N s A c E (⟨false, [], [], [], m⟩ : DOpt) none none none 0 0 0 xs w h h0 h0 hw0 hok (dc_none hr hs) h1 hxl).mono ?_
    rintro e w' ⟨A', c', rfl, hrd, hlo, hg⟩
    exact ⟨A', c', by rw [hol], by rw [hol]; exact hrd, hlo, hg⟩
def OTup (b8 : Nat) (ol : List Int) : Pr := fun u w => ∃ A c, u = .tuple #[.slice A ol.length c, .int .i64 0] ∧ Rd w A 1 ol.length (ol.map (.int .i64)) ∧ ∀ p, A = some p → b8 < p.block
theorem OTup.lasts (b8 : Nat) (ol : List Int) : Lasts (OTup b8 ol) := fun _ _ _ hg ⟨A, c, e, h, k⟩ => ⟨A, c, e, h.grows hg, k⟩
def OSl (b8 : Nat) (ol : List Int) : Pr := fun u w => ∃ A c, u = .slice A ol.length c ∧ Rd w A 1 ol.length (ol.map (.int .i64)) ∧ ∀ p, A = some p → b8 < p.block
theorem OSl.lasts (b8 : Nat) (ol : List Int) : Lasts (OSl b8 ol) := fun _ _ _ hg ⟨A, c, e, h, k⟩ => ⟨A, c, e, h.grows hg, k⟩
theorem runsTo_mono {P : Program} {Q Q' : Value → World → Prop} {r : Result Next} (h : runsTo P Q r) (hi : ∀ u w, Q u w → Q' u w) : runsTo P Q' r := by
  cases r with
  | halt x w' => simp only [runsTo] at h
  | ok x w' =>
    cases x <;> simp only [runsTo] at h ⊢
    case value u => exact hi _ _ h
    case skip => exact hi _ _ h
    case enter f args => exact h.mono fun e w'' ⟨u, he, h1⟩ => ⟨u, he, hi _ _ h1⟩
theorem AdjAt.put8 {w : World} {b8 ba N K : Nat} {E : List Edg} (h : AdjAt (fun k => b8 < k ∧ k < K) w ba N E) (j : Nat) (u : Value) : AdjAt (fun k => b8 < k ∧ k < K) (w.setCell ⟨b8, j, none⟩ u) ba N E := by
  have ht : Touch (fun k => k = b8) w (w.setCell ⟨b8, j, none⟩ u) := (Touch.refl (fun k => k = b8) w).set (p := ⟨b8, j, none⟩) (.inl rfl) u
  exact h.touch ht (fun k hk e => by have := hk.1; omega)
theorem Rd.put8 {w : World} {A : Option Addr} {n b8 : Nat} {xs : List Value} (h : Rd w A 1 n xs) (hne : ∀ p, A = some p → p.block ≠ b8) (j : Nat) (u : Value) : Rd (w.setCell ⟨b8, j, none⟩ u) A 1 n xs := by
  have ht : Touch (fun k => k = b8) w (w.setCell ⟨b8, j, none⟩ u) := (Touch.refl (fun k => k = b8) w).set (p := ⟨b8, j, none⟩) (.inl rfl) u
  exact h.touch ht (fun p hp => hne p hp)
theorem row_ne8 {w : World} {g b8 n : Nat} {xs cs : List Value} (h : Row1 w g 38 1 n n xs) (a : Arr w b8 65 cs) : ∀ p, some (⟨g, 0, none⟩ : Addr) = some p → p.block ≠ b8 := by
  intro p hp e
  injection hp with hp
  subst hp
  have e' : g = b8 := e
  subst e'
  exact absurd (h.ty.one a.ty) (by decide)
set_option maxRecDepth 40000 in
set_option maxHeartbeats 8000000 in
theorem dagNew (N s t : Nat) (A : Option Addr) (c0 : Nat) (E : List Edg) (w : World) (h : Rd w A 3 E.length (esCells E)) (hr : rightF N E = 0) (hs : s < N) (ht : t < N) (hf : gn (DsF N E s) t < farV) :
    Calls Tryz.prog 8 #[.agg #[.int .i64 (N : Int), .slice A E.length c0], .int .i64 (s : Int), .int .i64 (t : Int)] w fun e w' =>
      ∃ b ol, e = .returned (.tuple #[.pointer (some ⟨b, 0, none⟩), .int .i64 0]) ∧ OlOk N E s (max (gn (DsF N E s) t) 1) ol ∧ DgAt w' b N s t E (DsF N E s) (BkF N E t) ol ∧ Grows w w' := by
  obtain ⟨ol, hol, C6'⟩ := djOrderM N s (max (gn (DsF N E s) t) 1) A c0 E hr hs (by omega) (by unfold farV at hf ⊢; omega)
  have C6 := hide (fun (W : World) (g : Grows w W) => C6' W (h.grows g))
  clear C6'
  have C0 := hide (fun (W : World) (g : Grows w W) => by have := gRight N A E.length c0 E W (h.grows g) (by have := (right_in hr).2.2.1; omega); rw [hr] at this; exact this)
  have C1 := hide (fun (v : Nat) (hv : v < N) (W : World) => show Calls Tryz.prog 32 #[.agg #[.int .i64 (N : Int), .slice A E.length c0], .int .i64 (v : Int)] W fun e w' => e = .returned (.bool true) ∧ Grows W w' from by
    have := gNode N v (.slice A E.length c0) W
    rw [show nodeB (N : Int) (v : Int) = true from by simp [nodeB]; omega] at this
    exact this)
  have C3 := hide (fun (W : World) (g : Grows w W) => adjNew N A E.length c0 E W (h.grows g) (by have := (right_in hr).2.2.1; omega) hr)
  have C4 := hide (fun (W : World) (g : Grows w W) => djAllR N s A c0 E W (h.grows g) hr hs)
  have C5 := hide (fun (W : World) (g : Grows w W) => djAllB N t A c0 E W (h.grows g) hr ht)
  have hTl : (DsF N E s).length = N := by unfold DsF refL; split <;> simp [cutL, rndK_len, dBeg, srchOf]
  clear h hr
  generalize DsF N E s = T at *
  generalize BkF N E t = F at *
  go_enter Tryz.func8, Tryz.ntmps8
  go_upto_region 6 with (first
    | (go_at_call 31; refine (C0.out _ GG).mono ?_; rintro e w' ⟨rfl, hg⟩; obtain ⟨x0, rfl⟩ := hg.later; clear hg)
    | (go_at_call 32; refine (C1.out _ (by assumption) _).mono ?_; rintro e w' ⟨rfl, hg⟩; obtain ⟨x1, rfl⟩ := hg.later; clear hg))
  have a8 : Arr (x1.now.alloc (.cells #[.pointer none, .int .i64 (s : Int), .int .i64 (t : Int), .slice none 0 0, .slice none 0 0, .slice none 0 0] 65)) x1.now.heap.size 65 [.pointer none, .int .i64 (s : Int), .int .i64 (t : Int), .slice none 0 0, .slice none 0 0, .slice none 0 0] := Arr.make _ _ _
  have hg5 : Grows w (x1.now.alloc (.cells #[.pointer none, .int .i64 (s : Int), .int .i64 (t : Int), .slice none 0 0, .slice none 0 0, .slice none 0 0] 65)) := GG
  have hb8 : w.heap.size ≤ x1.now.heap.size := (show Grows w x1.now from GG).size
  have a3 : Arr (x1.now.alloc (.cells #[.pointer none, .int .i64 (s : Int), .int .i64 (t : Int), .slice none 0 0, .slice none 0 0, .slice none 0 0] 65)) w.heap.size 24 [.int .i64 (N : Int), .slice A E.length c0] := (Arr.make w _ _).grow (show Grows (w.alloc (.cells #[.int .i64 (N : Int), .slice A E.length c0] 24)) _ from GG)
  have hb38 : w.heap.size ≠ x1.now.heap.size := by
    have := (show Grows (w.alloc (.cells #[.int .i64 (N : Int), .slice A E.length c0] 24)) x1.now from GG).size
    simp at this
    omega
  generalize x1.now.alloc (.cells #[.pointer none, .int .i64 (s : Int), .int .i64 (t : Int), .slice none 0 0, .slice none 0 0, .slice none 0 0] 65) = W5 at *
  generalize x1.now.heap.size = b8 at *
  generalize hb3 : w.heap.size = b3 at *
  replace hb3 := hide hb3
  obtain ⟨y5, rfl⟩ := hg5.later
  have m0 := a8.mine 0 rfl
  clear C0 C1
  go_upto_region 7 with (go_at_call 33; refine (C3.out _ GG).mono ?_; rintro e w' ⟨ba, rfl, hA, hg⟩; obtain ⟨x2, rfl⟩ := hg.later; have HA := hide hA; clear hA hg)
  have HB := hide (show w.heap.size ≤ b8 from by rw [hb3.out]; exact hb8)
  have hg6 : Grows w (x2.now.setCell ⟨b8, 0, none⟩ (.pointer (some ⟨ba, 0, none⟩))) := (y5.grows.trans x2.grows).set (p := ⟨b8, 0, none⟩) HB.out _
  have a86 : Arr (x2.now.setCell ⟨b8, 0, none⟩ (.pointer (some ⟨ba, 0, none⟩))) b8 65 [.pointer (some ⟨ba, 0, none⟩), .int .i64 (s : Int), .int .i64 (t : Int), .slice none 0 0, .slice none 0 0, .slice none 0 0] := (a8.grow x2.grows).set 0 _
  have a36 : Arr (x2.now.setCell ⟨b8, 0, none⟩ (.pointer (some ⟨ba, 0, none⟩))) b3 24 [.int .i64 (N : Int), .slice A E.length c0] := (a3.grow x2.grows).other (p := ⟨b8, 0, none⟩) (Ne.symm hb38) _
  have HA6 : Hid (AdjAt (fun k => b8 < k ∧ k < x2.now.heap.size) (x2.now.setCell ⟨b8, 0, none⟩ (.pointer (some ⟨ba, 0, none⟩))) ba N E) := hide ((HA.out.mono (F' := fun k => b8 < k ∧ k < x2.now.heap.size) (fun k hk => ⟨Nat.lt_of_lt_of_le a8.lt hk.1, hk.2⟩)).put8 0 _)
  have HK6 : Hid (x2.now.heap.size ≤ (x2.now.setCell ⟨b8, 0, none⟩ (.pointer (some ⟨ba, 0, none⟩))).heap.size) := hide (by rw [size_setCell]; exact Nat.le_refl _)
  clear HA m0 a8 a3
  generalize x2.now.setCell ⟨b8, 0, none⟩ (.pointer (some ⟨ba, 0, none⟩)) = W6 at *
  generalize x2.now.heap.size = K at *
  clear hg5 x2
  obtain ⟨y6, rfl⟩ := hg6.later
  have m3 := a86.mine 3 rfl
  go_upto_region 8 with (go_at_call 34; refine (C4.out _ GG).mono ?_; rintro e w' ⟨g1, rfl, hrow, hg⟩; obtain ⟨x3, rfl⟩ := hg.later; have HR := hide hrow; clear hrow hg)
  have hg7 : Grows w (x3.now.setCell ⟨b8, 3, none⟩ (.slice (some ⟨g1, 0, none⟩) N N)) := (y6.grows.trans x3.grows).set (p := ⟨b8, 3, none⟩) HB.out _
  have a87 : Arr (x3.now.setCell ⟨b8, 3, none⟩ (.slice (some ⟨g1, 0, none⟩) N N)) b8 65 [.pointer (some ⟨ba, 0, none⟩), .int .i64 (s : Int), .int .i64 (t : Int), .slice (some ⟨g1, 0, none⟩) N N, .slice none 0 0, .slice none 0 0] := (a86.grow x3.grows).set 3 _
  have a37 : Arr (x3.now.setCell ⟨b8, 3, none⟩ (.slice (some ⟨g1, 0, none⟩) N N)) b3 24 [.int .i64 (N : Int), .slice A E.length c0] := (a36.grow x3.grows).other (p := ⟨b8, 3, none⟩) (Ne.symm hb38) _
  have HK7 := hide (show K ≤ (x3.now.setCell ⟨b8, 3, none⟩ (.slice (some ⟨g1, 0, none⟩) N N)).heap.size from by rw [size_setCell]; exact Nat.le_trans HK6.out x3.size)
  have HA7 := hide ((HA6.out.grows x3.grows).put8 3 (.slice (some ⟨g1, 0, none⟩) N N))
  have HR7 := hide (HR.out.rd.put8 (row_ne8 HR.out (a86.grow x3.grows)) 3 (.slice (some ⟨g1, 0, none⟩) N N))
  have HN7 := hide (fun (x4 : Later (x3.now.setCell ⟨b8, 3, none⟩ (.slice (some ⟨g1, 0, none⟩) N N))) => row_ne8 HR.out (a86.grow x3.grows))
  clear HA6 HR m3 a86 a36 HK6
  generalize x3.now.setCell ⟨b8, 3, none⟩ (.slice (some ⟨g1, 0, none⟩) N N) = W7 at *
  clear hg6 x3
  obtain ⟨y7, rfl⟩ := hg7.later
  have m4 := a87.mine 4 rfl
  obtain ⟨_, b1, o1, e1, hc1⟩ := HR7.out.wvH (by omega)
  injection e1 with e1
  injection e1 with e1 e2
  subst e1 e2
  have k1 := hc1 t ht
  rw [Nat.zero_add] at k1
  obtain ⟨tt, htt⟩ : ∃ q : Int, (gn T t : Int) = q := ⟨_, rfl⟩
  obtain ⟨mx, hmx⟩ : ∃ q : Int, ((max (gn T t) 1 : Nat) : Int) = q := ⟨_, rfl⟩
  have hnf : ¬ (4611686018427387904 : Int) ≤ tt := by unfold farV at hf; omega
  have hmx2 : mx = max tt 1 := by omega
  rw [htt] at k1
  simp only [hmx] at C6
  have HTT := hide htt
  clear hc1 htt hmx hf
  go_upto_region 11 with (go_at_call 34; refine (C5.out _ GG).mono ?_; rintro e w' ⟨g2, rfl, hrow, hg⟩; obtain ⟨x4, rfl⟩ := hg.later; have HR := hide hrow; clear hrow hg)
  have hg8 : Grows w (x4.now.setCell ⟨b8, 4, none⟩ (.slice (some ⟨g2, 0, none⟩) N N)) := (y7.grows.trans x4.grows).set (p := ⟨b8, 4, none⟩) HB.out _
  have a88 : Arr (x4.now.setCell ⟨b8, 4, none⟩ (.slice (some ⟨g2, 0, none⟩) N N)) b8 65 [.pointer (some ⟨ba, 0, none⟩), .int .i64 (s : Int), .int .i64 (t : Int), .slice (some ⟨g1, 0, none⟩) N N, .slice (some ⟨g2, 0, none⟩) N N, .slice none 0 0] := (a87.grow x4.grows).set 4 _
  have a38 : Arr (x4.now.setCell ⟨b8, 4, none⟩ (.slice (some ⟨g2, 0, none⟩) N N)) b3 24 [.int .i64 (N : Int), .slice A E.length c0] := (a37.grow x4.grows).other (p := ⟨b8, 4, none⟩) (Ne.symm hb38) _
  have HK8 := hide (show K ≤ (x4.now.setCell ⟨b8, 4, none⟩ (.slice (some ⟨g2, 0, none⟩) N N)).heap.size from by rw [size_setCell]; exact Nat.le_trans HK7.out x4.size)
  have HA8 := hide ((HA7.out.grows x4.grows).put8 4 (.slice (some ⟨g2, 0, none⟩) N N))
  have HR8 := hide ((HR7.out.grows x4.grows).put8 (HN7.out x4) 4 (.slice (some ⟨g2, 0, none⟩) N N))
  have HS8 := hide (HR.out.rd.put8 (row_ne8 HR.out (a87.grow x4.grows)) 4 (.slice (some ⟨g2, 0, none⟩) N N))
  have k8 : Holds (x4.now.setCell ⟨b8, 4, none⟩ (.slice (some ⟨g2, 0, none⟩) N N)) ⟨g1, t, none⟩ (.int .u64 tt) := by
    obtain ⟨_, b1, o1, e1, hc1⟩ := HR8.out.wvH (by omega)
    injection e1 with e1
    injection e1 with e1 e2
    subst e1 e2
    have := hc1 t ht
    rwa [Nat.zero_add, HTT.out] at this
  have HQ8 := hide (row_ne8 HR.out (a87.grow x4.grows))
  have HN8 := hide (HN7.out x4)
  clear HA7 HR7 HR m4 a87 a37 k1 HK7
  generalize x4.now.setCell ⟨b8, 4, none⟩ (.slice (some ⟨g2, 0, none⟩) N N) = W8 at *
  clear hg7 x4
  obtain ⟨y8, rfl⟩ := hg8.later
  have m5 := a88.mine 5 rfl
  have hmx3 : max tt 1 = mx := hmx2.symm
  clear hmx2
  obtain ⟨VV, hVV⟩ : ∃ V : Option Addr × Nat → Nat → Value, V = fun c j => ([.pointer (some ⟨b8, 0, none⟩), .agg #[.int .i64 (N : Int), .slice A E.length c0], .int .i64 (s : Int), .pointer (some ⟨b8, 0, none⟩), .pointer (some ⟨b8, 0, none⟩), .pointer (some ⟨b8, 3, none⟩), .slice (some ⟨g1, 0, none⟩) N N, .int .i64 (t : Int), .pointer (some ⟨g1, t, none⟩), .int .u64 tt, .int .u64 mx, .agg #[.bool false, .slice none 0 0, .slice none 0 0, .slice none 0 0, .int .u64 mx],
    .tuple #[.slice c.1 ol.length c.2, .int .i64 0], .tuple #[.slice c.1 ol.length c.2, .int .i64 0], .slice c.1 ol.length c.2, .int .i64 0, .pointer (some ⟨b8, 0, none⟩), .pointer (some ⟨b8, 5, none⟩), undef] : List Value).getD j undef := ⟨_, rfl⟩
  go_upto_region 11 with fail
  refine wp_region_some (by kernel_rfl) (by kernel_rfl) (by kernel_rfl) (by kernel_rfl) (by kernel_rfl) VV
    (fun c D w1 => ∃ W, Grows y8.now W ∧ w1 = (if D 18 = true then W.setCell ⟨b8, 5, none⟩ (.slice c.1 ol.length c.2) else W) ∧ (D 12 = true → Rd W c.1 1 ol.length (ol.map (.int .i64)) ∧ ∀ p, c.1 = some p → b8 < p.block)) (none, 0) ⟨y8.now.drew, (Grows.refl _).drew, by simp, fun h => absurd h (by simp)⟩ ?hs ?he
  case hs =>
    subst hVV
    intro c a hV hO i oo ho D hcl hD hpre w1 hM
    match i, ho, hD, hpre with
    | 0, ho, hD, hpre =>
      cases (show some _ = some oo from ho)
      have e8 := ev_nfK ((hO 8 (notDstK (by kernel_rfl))).trans rfl)
      have d18 : D 18 = false := by
        cases hd : D 18 with
        | false => rfl
        | true => exact absurd (hcl 18 0 hd (by kernel_rfl)) (by rw [hD]; exact Bool.false_ne_true)
      obtain ⟨W, hgW, hw, hR⟩ := hM
      rw [d18, if_neg Bool.false_ne_true] at hw
      subst hw
      obtain ⟨x, rfl⟩ := hgW.later
      refine runsTo_mono (Q := fun u w1 => w1 = x.now ∧ u = (.pointer (some ⟨b8, 0, none⟩) : Value)) ?_ (fun u w1 ⟨h1, h2⟩ => ⟨c, ⟨x.now, x.grows, by rw [h1]; simp [d18], by simpa using hR⟩, fun _ _ _ => rfl, .inr h2⟩)
      go_simp
      all_goals exact ⟨rfl, rfl⟩
    | 1, ho, hD, hpre =>
      cases (show some _ = some oo from ho)
      have e3 := ev_nfK ((hO 3 (notDstK (by kernel_rfl))).trans rfl)
      have d18 : D 18 = false := by
        cases hd : D 18 with
        | false => rfl
        | true => exact absurd (hcl 18 1 hd (by kernel_rfl)) (by rw [hD]; exact Bool.false_ne_true)
      obtain ⟨W, hgW, hw, hR⟩ := hM
      rw [d18, if_neg Bool.false_ne_true] at hw
      subst hw
      obtain ⟨x, rfl⟩ := hgW.later
      refine runsTo_mono (Q := fun u w1 => w1 = x.now ∧ u = (.agg #[.int .i64 (N : Int), .slice A E.length c0] : Value)) ?_ (fun u w1 ⟨h1, h2⟩ => ⟨c, ⟨x.now, x.grows, by rw [h1]; simp [d18], by simpa using hR⟩, fun _ _ _ => rfl, .inr h2⟩)
      go_simp
      all_goals exact ⟨rfl, rfl⟩
    | 2, ho, hD, hpre =>
      cases (show some _ = some oo from ho)
      have e1 := ev_nfK ((hO 1 (notDstK (by kernel_rfl))).trans rfl)
      have d18 : D 18 = false := by
        cases hd : D 18 with
        | false => rfl
        | true => exact absurd (hcl 18 2 hd (by kernel_rfl)) (by rw [hD]; exact Bool.false_ne_true)
      obtain ⟨W, hgW, hw, hR⟩ := hM
      rw [d18, if_neg Bool.false_ne_true] at hw
      subst hw
      obtain ⟨x, rfl⟩ := hgW.later
      refine runsTo_mono (Q := fun u w1 => w1 = x.now ∧ u = (.int .i64 (s : Int) : Value)) ?_ (fun u w1 ⟨h1, h2⟩ => ⟨c, ⟨x.now, x.grows, by rw [h1]; simp [d18], by simpa using hR⟩, fun _ _ _ => rfl, .inr h2⟩)
      go_simp
      all_goals exact ⟨rfl, rfl⟩
    | 3, ho, hD, hpre =>
      cases (show some _ = some oo from ho)
      have e8 := ev_nfK ((hO 8 (notDstK (by kernel_rfl))).trans rfl)
      have d18 : D 18 = false := by
        cases hd : D 18 with
        | false => rfl
        | true => exact absurd (hcl 18 3 hd (by kernel_rfl)) (by rw [hD]; exact Bool.false_ne_true)
      obtain ⟨W, hgW, hw, hR⟩ := hM
      rw [d18, if_neg Bool.false_ne_true] at hw
      subst hw
      obtain ⟨x, rfl⟩ := hgW.later
      refine runsTo_mono (Q := fun u w1 => w1 = x.now ∧ u = (.pointer (some ⟨b8, 0, none⟩) : Value)) ?_ (fun u w1 ⟨h1, h2⟩ => ⟨c, ⟨x.now, x.grows, by rw [h1]; simp [d18], by simpa using hR⟩, fun _ _ _ => rfl, .inr h2⟩)
      go_simp
      all_goals exact ⟨rfl, rfl⟩
    | 4, ho, hD, hpre =>
      cases (show some _ = some oo from ho)
      have e68 := ev_nfK (hV 3 68 rfl)
      have d18 : D 18 = false := by
        cases hd : D 18 with
        | false => rfl
        | true => exact absurd (hcl 18 4 hd (by kernel_rfl)) (by rw [hD]; exact Bool.false_ne_true)
      obtain ⟨W, hgW, hw, hR⟩ := hM
      rw [d18, if_neg Bool.false_ne_true] at hw
      subst hw
      obtain ⟨x, rfl⟩ := hgW.later
      refine runsTo_mono (Q := fun u w1 => w1 = x.now ∧ u = (.pointer (some ⟨b8, 0, none⟩) : Value)) ?_ (fun u w1 ⟨h1, h2⟩ => ⟨c, ⟨x.now, x.grows, by rw [h1]; simp [d18], by simpa using hR⟩, fun _ _ _ => rfl, .inr h2⟩)
      go_simp
      all_goals exact ⟨rfl, rfl⟩
    | 5, ho, hD, hpre =>
      cases (show some _ = some oo from ho)
      have e69 := ev_nfK (hV 4 69 rfl)
      have d18 : D 18 = false := by
        cases hd : D 18 with
        | false => rfl
        | true => exact absurd (hcl 18 5 hd (by kernel_rfl)) (by rw [hD]; exact Bool.false_ne_true)
      obtain ⟨W, hgW, hw, hR⟩ := hM
      rw [d18, if_neg Bool.false_ne_true] at hw
      subst hw
      obtain ⟨x, rfl⟩ := hgW.later
      refine runsTo_mono (Q := fun u w1 => w1 = x.now ∧ u = (.pointer (some ⟨b8, 3, none⟩) : Value)) ?_ (fun u w1 ⟨h1, h2⟩ => ⟨c, ⟨x.now, x.grows, by rw [h1]; simp [d18], by simpa using hR⟩, fun _ _ _ => rfl, .inr h2⟩)
      go_simp
      all_goals exact ⟨rfl, rfl⟩
    | 6, ho, hD, hpre =>
      cases (show some _ = some oo from ho)
      have e70 := ev_nfK (hV 5 70 rfl)
      have d18 : D 18 = false := by
        cases hd : D 18 with
        | false => rfl
        | true => exact absurd (hcl 18 6 hd (by kernel_rfl)) (by rw [hD]; exact Bool.false_ne_true)
      obtain ⟨W, hgW, hw, hR⟩ := hM
      rw [d18, if_neg Bool.false_ne_true] at hw
      subst hw
      obtain ⟨x, rfl⟩ := hgW.later
      refine runsTo_mono (Q := fun u w1 => w1 = x.now ∧ u = (.slice (some ⟨g1, 0, none⟩) N N : Value)) ?_ (fun u w1 ⟨h1, h2⟩ => ⟨c, ⟨x.now, x.grows, by rw [h1]; simp [d18], by simpa using hR⟩, fun _ _ _ => rfl, .inr h2⟩)
      go_simp
      all_goals exact ⟨rfl, rfl⟩
    | 7, ho, hD, hpre =>
      cases (show some _ = some oo from ho)
      have e2 := ev_nfK ((hO 2 (notDstK (by kernel_rfl))).trans rfl)
      have d18 : D 18 = false := by
        cases hd : D 18 with
        | false => rfl
        | true => exact absurd (hcl 18 7 hd (by kernel_rfl)) (by rw [hD]; exact Bool.false_ne_true)
      obtain ⟨W, hgW, hw, hR⟩ := hM
      rw [d18, if_neg Bool.false_ne_true] at hw
      subst hw
      obtain ⟨x, rfl⟩ := hgW.later
      refine runsTo_mono (Q := fun u w1 => w1 = x.now ∧ u = (.int .i64 (t : Int) : Value)) ?_ (fun u w1 ⟨h1, h2⟩ => ⟨c, ⟨x.now, x.grows, by rw [h1]; simp [d18], by simpa using hR⟩, fun _ _ _ => rfl, .inr h2⟩)
      go_simp
      all_goals exact ⟨rfl, rfl⟩
    | 8, ho, hD, hpre =>
      cases (show some _ = some oo from ho)
      have e71 := ev_nfK (hV 6 71 rfl)
      have e72 := ev_nfK (hV 7 72 rfl)
      have d18 : D 18 = false := by
        cases hd : D 18 with
        | false => rfl
        | true => exact absurd (hcl 18 8 hd (by kernel_rfl)) (by rw [hD]; exact Bool.false_ne_true)
      obtain ⟨W, hgW, hw, hR⟩ := hM
      rw [d18, if_neg Bool.false_ne_true] at hw
      subst hw
      obtain ⟨x, rfl⟩ := hgW.later
      refine runsTo_mono (Q := fun u w1 => w1 = x.now ∧ u = (.pointer (some ⟨g1, t, none⟩) : Value)) ?_ (fun u w1 ⟨h1, h2⟩ => ⟨c, ⟨x.now, x.grows, by rw [h1]; simp [d18], by simpa using hR⟩, fun _ _ _ => rfl, .inr h2⟩)
      go_simp
      all_goals exact ⟨rfl, rfl⟩
    | 9, ho, hD, hpre =>
      cases (show some _ = some oo from ho)
      have e73 := ev_nfK (hV 8 73 rfl)
      have d18 : D 18 = false := by
        cases hd : D 18 with
        | false => rfl
        | true => exact absurd (hcl 18 9 hd (by kernel_rfl)) (by rw [hD]; exact Bool.false_ne_true)
      obtain ⟨W, hgW, hw, hR⟩ := hM
      rw [d18, if_neg Bool.false_ne_true] at hw
      subst hw
      obtain ⟨x, rfl⟩ := hgW.later
      refine runsTo_mono (Q := fun u w1 => w1 = x.now ∧ u = (.int .u64 tt : Value)) ?_ (fun u w1 ⟨h1, h2⟩ => ⟨c, ⟨x.now, x.grows, by rw [h1]; simp [d18], by simpa using hR⟩, fun _ _ _ => rfl, .inr h2⟩)
      go_simp
      all_goals exact ⟨rfl, rfl⟩
    | 10, ho, hD, hpre =>
      cases (show some _ = some oo from ho)
      have e74 := ev_nfK (hV 9 74 rfl)
      have d18 : D 18 = false := by
        cases hd : D 18 with
        | false => rfl
        | true => exact absurd (hcl 18 10 hd (by kernel_rfl)) (by rw [hD]; exact Bool.false_ne_true)
      obtain ⟨W, hgW, hw, hR⟩ := hM
      rw [d18, if_neg Bool.false_ne_true] at hw
      subst hw
      obtain ⟨x, rfl⟩ := hgW.later
      refine runsTo_mono (Q := fun u w1 => w1 = x.now ∧ u = (.int .u64 mx : Value)) ?_ (fun u w1 ⟨h1, h2⟩ => ⟨c, ⟨x.now, x.grows, by rw [h1]; simp [d18], by simpa using hR⟩, fun _ _ _ => rfl, .inr h2⟩)
      go_simp
      all_goals exact ⟨rfl, rfl⟩
    | 11, ho, hD, hpre =>
      cases (show some _ = some oo from ho)
      have e75 := ev_nfK (hV 10 75 rfl)
      have d18 : D 18 = false := by
        cases hd : D 18 with
        | false => rfl
        | true => exact absurd (hcl 18 11 hd (by kernel_rfl)) (by rw [hD]; exact Bool.false_ne_true)
      obtain ⟨W, hgW, hw, hR⟩ := hM
      rw [d18, if_neg Bool.false_ne_true] at hw
      subst hw
      obtain ⟨x, rfl⟩ := hgW.later
      refine runsTo_mono (Q := fun u w1 => w1 = x.now ∧ u = (.agg #[.bool false, .slice none 0 0, .slice none 0 0, .slice none 0 0, .int .u64 mx] : Value)) ?_ (fun u w1 ⟨h1, h2⟩ => ⟨c, ⟨x.now, x.grows, by rw [h1]; simp [d18], by simpa using hR⟩, fun _ _ _ => rfl, .inr h2⟩)
      go_simp
      all_goals exact ⟨rfl, rfl⟩
    | 12, ho, hD, hpre =>
      cases (show some _ = some oo from ho)
      have e66 := ev_nfK (hV 1 66 rfl)
      have e67 := ev_nfK (hV 2 67 rfl)
      have e76 := ev_nfK (hV 11 76 rfl)
      have d18 : D 18 = false := by
        cases hd : D 18 with
        | false => rfl
        | true => exact absurd (hcl 18 12 hd (by kernel_rfl)) (by rw [hD]; exact Bool.false_ne_true)
      obtain ⟨W, hgW, hw, hR⟩ := hM
      rw [d18, if_neg Bool.false_ne_true] at hw
      subst hw
      obtain ⟨x, rfl⟩ := hgW.later
      have h12 : D 12 = false := hD
      have h13 : D 13 = false := by
        cases hd : D 13 with
        | false => rfl
        | true => exact absurd (hcl 13 12 hd (by kernel_rfl)) (by rw [h12]; exact Bool.false_ne_true)
      have h14 : D 14 = false := by
        cases hd : D 14 with
        | false => rfl
        | true => exact absurd (hcl 14 13 hd (by kernel_rfl)) (by rw [h13]; exact Bool.false_ne_true)
      have a8x := a88.grow x.grows
      refine runsTo_mono (Q := fun u w1 => Grows x.now w1 ∧ OTup b8 ol u w1) ?_ (fun u w1 ⟨h4, A1, c1, h1, h2, h3⟩ => ⟨(A1, c1), ⟨w1, x.grows.trans h4, by simp [d18], fun _ => ⟨h2, h3⟩⟩, fun j _ hDj => ?_, .inr h1⟩)
      · go_simp
        refine (C6.out _ (y8.grows.trans x.grows)).mono ?_
        rintro e w2 ⟨A1, c1, rfl, hrd, hlo, hg⟩
        exact ⟨_, rfl, hg, A1, c1, rfl, hrd, fun p hp => Nat.lt_of_lt_of_le a8x.lt (hlo p hp)⟩
      · match j, hDj with
        | 0, _ => rfl
        | 1, _ => rfl
        | 2, _ => rfl
        | 3, _ => rfl
        | 4, _ => rfl
        | 5, _ => rfl
        | 6, _ => rfl
        | 7, _ => rfl
        | 8, _ => rfl
        | 9, _ => rfl
        | 10, _ => rfl
        | 11, _ => rfl
        | 12, hDj => exact absurd hDj (by rw [h12]; exact Bool.false_ne_true)
        | 13, hDj => exact absurd hDj (by rw [h13]; exact Bool.false_ne_true)
        | 14, hDj => exact absurd hDj (by rw [h14]; exact Bool.false_ne_true)
        | 15, _ => rfl
        | 16, _ => rfl
        | 17, _ => rfl
        | 18, _ => rfl
        | n + 19, _ => rfl
    | 13, ho, hD, hpre =>
      cases (show some _ = some oo from ho)
      have e77 := ev_nfK (hV 12 77 rfl)
      have d18 : D 18 = false := by
        cases hd : D 18 with
        | false => rfl
        | true => exact absurd (hcl 18 13 hd (by kernel_rfl)) (by rw [hD]; exact Bool.false_ne_true)
      obtain ⟨W, hgW, hw, hR⟩ := hM
      rw [d18, if_neg Bool.false_ne_true] at hw
      subst hw
      obtain ⟨x, rfl⟩ := hgW.later
      refine runsTo_mono (Q := fun u w1 => w1 = x.now ∧ u = (.tuple #[.slice c.1 ol.length c.2, .int .i64 0] : Value)) ?_ (fun u w1 ⟨h1, h2⟩ => ⟨c, ⟨x.now, x.grows, by rw [h1]; simp [d18], by simpa using hR⟩, fun _ _ _ => rfl, .inr h2⟩)
      go_simp
      all_goals exact ⟨rfl, rfl⟩
    | 14, ho, hD, hpre =>
      cases (show some _ = some oo from ho)
      have e64 := ev_nfK (hV 13 64 rfl)
      have d18 : D 18 = false := by
        cases hd : D 18 with
        | false => rfl
        | true => exact absurd (hcl 18 14 hd (by kernel_rfl)) (by rw [hD]; exact Bool.false_ne_true)
      obtain ⟨W, hgW, hw, hR⟩ := hM
      rw [d18, if_neg Bool.false_ne_true] at hw
      subst hw
      obtain ⟨x, rfl⟩ := hgW.later
      refine runsTo_mono (Q := fun u w1 => w1 = x.now ∧ u = (.slice c.1 ol.length c.2 : Value)) ?_ (fun u w1 ⟨h1, h2⟩ => ⟨c, ⟨x.now, x.grows, by rw [h1]; simp [d18], by simpa using hR⟩, fun _ _ _ => rfl, .inr h2⟩)
      go_simp
      all_goals exact ⟨rfl, rfl⟩
    | 15, ho, hD, hpre =>
      cases (show some _ = some oo from ho)
      have e64 := ev_nfK (hV 13 64 rfl)
      obtain ⟨W, hgW, hw, hR⟩ := hM
      refine runsTo_mono (Q := fun u w2 => w2 = w1 ∧ u = (.int .i64 0 : Value)) ?_ (fun u w2 ⟨h1, h2⟩ => ⟨c, ⟨W, hgW, by rw [h1]; simpa using hw, by simpa using hR⟩, fun _ _ _ => rfl, .inr h2⟩)
      clear hw
      go_simp
      all_goals exact ⟨rfl, rfl⟩
    | 16, ho, hD, hpre =>
      cases (show some _ = some oo from ho)
      have e65 := ev_nfK (hV 0 65 rfl)
      have d18 : D 18 = false := by
        cases hd : D 18 with
        | false => rfl
        | true => exact absurd (hcl 17 16 (hcl 18 17 hd (by kernel_rfl)) (by kernel_rfl)) (by rw [hD]; exact Bool.false_ne_true)
      obtain ⟨W, hgW, hw, hR⟩ := hM
      rw [d18, if_neg Bool.false_ne_true] at hw
      subst hw
      obtain ⟨x, rfl⟩ := hgW.later
      refine runsTo_mono (Q := fun u w1 => w1 = x.now ∧ u = (.pointer (some ⟨b8, 0, none⟩) : Value)) ?_ (fun u w1 ⟨h1, h2⟩ => ⟨c, ⟨x.now, x.grows, by rw [h1]; simp [d18], by simpa using hR⟩, fun _ _ _ => rfl, .inr h2⟩)
      go_simp
      all_goals exact ⟨rfl, rfl⟩
    | 17, ho, hD, hpre =>
      cases (show some _ = some oo from ho)
      have e80 := ev_nfK (hV 16 80 rfl)
      have d18 : D 18 = false := by
        cases hd : D 18 with
        | false => rfl
        | true => exact absurd (hcl 18 17 hd (by kernel_rfl)) (by rw [hD]; exact Bool.false_ne_true)
      obtain ⟨W, hgW, hw, hR⟩ := hM
      rw [d18, if_neg Bool.false_ne_true] at hw
      subst hw
      obtain ⟨x, rfl⟩ := hgW.later
      refine runsTo_mono (Q := fun u w1 => w1 = x.now ∧ u = (.pointer (some ⟨b8, 5, none⟩) : Value)) ?_ (fun u w1 ⟨h1, h2⟩ => ⟨c, ⟨x.now, x.grows, by rw [h1]; simp [d18], by simpa using hR⟩, fun _ _ _ => rfl, .inr h2⟩)
      go_simp
      all_goals exact ⟨rfl, rfl⟩
    | 18, ho, hD, hpre =>
      cases (show some _ = some oo from ho)
      have e81 := ev_nfK (hV 17 81 rfl)
      have e78 := ev_nfK (hV 14 78 rfl)
      have d18 : D 18 = false := hD
      obtain ⟨W, hgW, hw, hR⟩ := hM
      rw [d18, if_neg Bool.false_ne_true] at hw
      subst hw
      obtain ⟨x, rfl⟩ := hgW.later
      refine runsTo_mono (Q := fun u w2 => w2 = x.now.setCell ⟨b8, 5, none⟩ (.slice c.1 ol.length c.2)) ?_ (fun u w2 h1 => ⟨c, ⟨x.now, x.grows, by rw [h1]; simp, by simpa using hR⟩, fun _ _ _ => rfl, .inl rfl⟩)
      go_simp
      all_goals rfl
    | n + 19, ho, hD, hpre => cases ho
  case he =>
    intro c w1 hM
    obtain ⟨W, hgW, hw, hR⟩ := hM
    obtain ⟨hR1, hR2⟩ := hR rfl
    rw [if_pos rfl] at hw
    subst hw
    have hgE : Grows w (W.setCell ⟨b8, 5, none⟩ (.slice c.1 ol.length c.2)) := (y8.grows.trans hgW).set (p := ⟨b8, 5, none⟩) HB.out _
    have aE : Arr (W.setCell ⟨b8, 5, none⟩ (.slice c.1 ol.length c.2)) b8 65 [.pointer (some ⟨ba, 0, none⟩), .int .i64 (s : Int), .int .i64 (t : Int), .slice (some ⟨g1, 0, none⟩) N N, .slice (some ⟨g2, 0, none⟩) N N, .slice c.1 ol.length c.2] := (a88.grow hgW).set 5 _
    have HE := hide (show DgAt (W.setCell ⟨b8, 5, none⟩ (.slice c.1 ol.length c.2)) b8 N s t E T F ol from
      ⟨ba, _, _, _, _, _, _, aE, ((HA8.out.grows hgW).put8 5 _).mono (fun k hk => by rw [size_setCell]; exact Nat.lt_of_lt_of_le hk.2 (Nat.le_trans HK8.out hgW.size)), (HR8.out.grows hgW).put8 HN8.out 5 _, (HS8.out.grows hgW).put8 HQ8.out 5 _, hR1.put8 (fun p hp => Nat.ne_of_gt (hR2 p hp)) 5 _⟩)
    clear aE hR1 hR2 a88 a38 HA8 HR8 HS8 k8 m5 C3 C4 C5 C6
    generalize W.setCell ⟨b8, 5, none⟩ (.slice c.1 ol.length c.2) = W9 at *
    subst hVV
    simp only [putAll, dstOf, List.length_cons, List.length_nil, Nat.reduceAdd, List.getElem?_cons_zero, List.getElem?_cons_succ, Option.bind_some, List.getD_cons_zero, List.getD_cons_succ, Act.put, List.setIfInBounds_toArray, List.set_cons_zero, List.set_cons_succ]
    go_wp2_with fail
    refine bodyPost_ret (v := .tuple #[.pointer (some ⟨b8, 0, none⟩), .int .i64 0]) (by simp (maxDischargeDepth := 6) [results, Tryz.results8, go_sem, *]) rfl ⟨b8, rfl, ol, hol, HE.out, hgE⟩
end Go.Proofs.YtomednfddpggaaaGreat

/- Contracts: the closures of dag.Nodes and dag.Bridges. -/
namespace Go.Proofs.YtomednfddpggaaaGreat
open Go Go.RowKit
attribute [local go_sem] Oper.semAt_some
set_option maxRecDepth 20000 in
set_option maxHeartbeats 4000000 in
theorem dagNodes1 (b bx N s t : Nat) (v : Int) (E : List Edg) (T F : List Nat) (ol : List Int) (w : World) (hx : Arr w bx 27 [.pointer (some ⟨b, 0, none⟩)]) (h : DgAt w b N s t E T F ol) (ht : t < N) (hT : ∀ v, gn T v ≤ farV) (hF : ∀ v, gn F v ≤ farV) :
    Calls Tryz.prog 43 #[.int .i64 v, .pointer (some ⟨bx, 0, none⟩)] w fun e w' => e = .returned (.bool (!thB N T F t v)) ∧ Grows w w' := by
  have C1 := hide (fun (W : World) (g : Grows w W) => dagThrough b N s t v E T F ol W (h.grow g) ht hT hF)
  clear h hT hF
  generalize thB N T F t v = r at *
  go_enter Tryz.func43, Tryz.ntmps43
  go_wp2_with (go_at_call 16; refine (C1.out _ GG).mono ?_; rintro e w' ⟨rfl, hg⟩; obtain ⟨x0, rfl⟩ := hg.later; clear hg)
  go_ret
  exact ⟨rfl, GG⟩
def ovB (T : List Nat) (i k f u lo hi : Nat) : Bool := decide (k ≠ i) && (decide (gn T f < hi) && decide (lo < gn T u))
set_option maxRecDepth 20000 in
set_option maxHeartbeats 4000000 in
theorem dagBridges1 (b bx bi bh bl N s t i k lo hi : Nat) (E : List Edg) (T F : List Nat) (ol : List Int) (w : World) (hx : Arr w bx 27 [.pointer (some ⟨b, 0, none⟩)]) (xi : Arr w bi 3 [.int .i64 (i : Int)]) (xh : Arr w bh 38 [.int .u64 (hi : Int)]) (xl : Arr w bl 38 [.int .u64 (lo : Int)]) (h : DgAt w b N s t E T F ol) (hk : k < E.length) (hr : rightF N E = 0) :
    Calls Tryz.prog 46 #[.int .i64 (k : Int), .pointer (some ⟨bx, 0, none⟩), .pointer (some ⟨bi, 0, none⟩), .pointer (some ⟨bh, 0, none⟩), .pointer (some ⟨bl, 0, none⟩)] w fun e w' => e = .returned (.bool (ovB T i k (fN E k) (tN E k) lo hi)) ∧ Grows w w' := by
  obtain ⟨r1, r2, _, r4, r5⟩ := right_in hr
  rw [Int.toNat_natCast] at r4
  have n1 := r4.f k hk
  have n2 := r4.t k hk
  have f1 : (ge E k).f = (fN E k : Int) := by unfold fN; omega
  have f2 : (ge E k).t = (tN E k : Int) := by unfold tN; omega
  have hf : fN E k < N := by omega
  have hu : tN E k < N := by omega
  obtain ⟨ba, A1, c1, A2, c2, A3, c3, a1, h2, h3, _, _⟩ := h
  have CE := hide (fun (W : World) (g : Grows w W) => adjEdge ba N k E W (h2.grows g) hk)
  unfold eVal at CE
  rw [f1, f2] at CE
  obtain ⟨_, b1, o1, rfl, hc1⟩ := h3.wvH (by omega)
  have m1 := hc1 _ hf
  have m2 := hc1 _ hu
  have hki : ((k : Int) != (i : Int)) = decide (k ≠ i) := by
    by_cases e : k = i
    · subst e; simp
    · rw [decide_eq_true e, bne_iff_ne.2 (by omega)]
  unfold ovB
  clear hc1 h3 h2 f1 f2 n1 n2 hr r1 r2 r4 r5
  generalize fN E k = f at *
  generalize tN E k = u at *
  generalize (ge E k).w = ew at *
  cases hd : decide (k ≠ i) with
  | false =>
    rw [hd] at hki
    clear hd
    go_enter Tryz.func46, Tryz.ntmps46
    go_upto_region 2 with (go_at_call 39; refine (CE.out _ GG).mono ?_; rintro e w' ⟨rfl, hg⟩; obtain ⟨x0, rfl⟩ := hg.later; clear hg)
    have hg : Grows w (x0.now.alloc (.cells #[.int .i64 (f : Int), .int .i64 (u : Int), .int .u64 ew] 59)) := GG
    ((first | refine wp_region_gen (by kernel_rfl) (by kernel_rfl) ?_); (repeat' (first | (refine gLex_val0 rfl (by kernel_rfl) (fun K hK => ?_); (go_simp; (try (simp only [↓IntWalk.iteOmega]; try go_simp)); (try simp (disch := omega) only [IntWalk.i64_in]); (try simp (disch := omega) only [IntWalk.u64_in]); first | (refine hK _ ?_; clear hK K) | (apply Exists.intro; refine ⟨fun x => ?_, hK _ ?_⟩; (first | fail); clear hK K))) | (refine gLex_undef rfl rfl rfl (by kernel_rfl) (fun K hK => ?_); go_simp; refine hK _ ?_; clear hK K) | (refine gLex_ask rfl rfl rfl ?_; first | (apply gAsk_yes; kernel_rfl; intro K hK; (go_simp; (try (simp only [↓IntWalk.iteOmega]; try go_simp)); (try simp (disch := omega) only [IntWalk.i64_in]); (try simp (disch := omega) only [IntWalk.u64_in]); first | (refine hK _ ?_; clear hK K) | (apply Exists.intro; refine ⟨fun x => ?_, hK _ ?_⟩; (first | fail); clear hK K))) | ((first | apply gAsk_no1 | apply gAsk_no2); kernel_rfl; intro K hK; simp [go_sem]; refine hK _ ?_; clear hK K) | (apply gAsk_part; kernel_rfl; all_goals (intro h K hK; (try simp only [Bool.not_true] at h); (try simp only [Bool.not_false] at h); (try simp only [decide_eq_true_eq] at h); (try simp only [decide_eq_false_iff_not] at h); first | (exfalso; first | contradiction | omega) | (go_simp; (try (simp only [↓IntWalk.iteOmega]; try go_simp)); (try simp (disch := omega) only [IntWalk.i64_in]); (try simp (disch := omega) only [IntWalk.u64_in]); first | (refine hK _ ?_; clear hK K) | (apply Exists.intro; refine ⟨fun x => ?_, hK _ ?_⟩; (first | fail); clear hK K))))))); all_goals ((apply gLex_end); intro x))
    go_wp2_with fail
    go_ret
    exact ⟨rfl, GG⟩
  | true =>
    rw [hd] at hki
    clear hd
    by_cases q1 : gn T f < hi
    · rw [decide_eq_true q1]
      go_enter Tryz.func46, Tryz.ntmps46
      go_upto_region 2 with (go_at_call 39; refine (CE.out _ GG).mono ?_; rintro e w' ⟨rfl, hg⟩; obtain ⟨x0, rfl⟩ := hg.later; clear hg)
      ((first | refine wp_region_gen (by kernel_rfl) (by kernel_rfl) ?_); (repeat' (first | (refine gLex_val0 rfl (by kernel_rfl) (fun K hK => ?_); (go_simp; (try (simp only [↓IntWalk.iteOmega]; try go_simp)); (try simp (disch := omega) only [IntWalk.i64_in]); (try simp (disch := omega) only [IntWalk.u64_in]); first | (refine hK _ ?_; clear hK K) | (apply Exists.intro; refine ⟨fun x => ?_, hK _ ?_⟩; (first | fail); clear hK K))) | (refine gLex_undef rfl rfl rfl (by kernel_rfl) (fun K hK => ?_); go_simp; refine hK _ ?_; clear hK K) | (refine gLex_ask rfl rfl rfl ?_; first | (apply gAsk_yes; kernel_rfl; intro K hK; (go_simp; (try (simp only [↓IntWalk.iteOmega]; try go_simp)); (try simp (disch := omega) only [IntWalk.i64_in]); (try simp (disch := omega) only [IntWalk.u64_in]); first | (refine hK _ ?_; clear hK K) | (apply Exists.intro; refine ⟨fun x => ?_, hK _ ?_⟩; (first | fail); clear hK K))) | ((first | apply gAsk_no1 | apply gAsk_no2); kernel_rfl; intro K hK; simp [go_sem]; refine hK _ ?_; clear hK K) | (apply gAsk_part; kernel_rfl; all_goals (intro h K hK; (try simp only [Bool.not_true] at h); (try simp only [Bool.not_false] at h); (try simp only [decide_eq_true_eq] at h); (try simp only [decide_eq_false_iff_not] at h); first | (exfalso; first | contradiction | omega) | (go_simp; (try (simp only [↓IntWalk.iteOmega]; try go_simp)); (try simp (disch := omega) only [IntWalk.i64_in]); (try simp (disch := omega) only [IntWalk.u64_in]); first | (refine hK _ ?_; clear hK K) | (apply Exists.intro; refine ⟨fun x => ?_, hK _ ?_⟩; (first | fail); clear hK K))))))); all_goals ((apply gLex_end); intro x))
      go_wp2_with fail
      go_ret
      exact ⟨by simp, GG⟩
    · rw [decide_eq_false q1]
      go_enter Tryz.func46, Tryz.ntmps46
      go_upto_region 2 with (go_at_call 39; refine (CE.out _ GG).mono ?_; rintro e w' ⟨rfl, hg⟩; obtain ⟨x0, rfl⟩ := hg.later; clear hg)
      ((first | refine wp_region_gen (by kernel_rfl) (by kernel_rfl) ?_); (repeat' (first | (refine gLex_val0 rfl (by kernel_rfl) (fun K hK => ?_); (go_simp; (try (simp only [↓IntWalk.iteOmega]; try go_simp)); (try simp (disch := omega) only [IntWalk.i64_in]); (try simp (disch := omega) only [IntWalk.u64_in]); first | (refine hK _ ?_; clear hK K) | (apply Exists.intro; refine ⟨fun x => ?_, hK _ ?_⟩; (first | fail); clear hK K))) | (refine gLex_undef rfl rfl rfl (by kernel_rfl) (fun K hK => ?_); go_simp; refine hK _ ?_; clear hK K) | (refine gLex_ask rfl rfl rfl ?_; first | (apply gAsk_yes; kernel_rfl; intro K hK; (go_simp; (try (simp only [↓IntWalk.iteOmega]; try go_simp)); (try simp (disch := omega) only [IntWalk.i64_in]); (try simp (disch := omega) only [IntWalk.u64_in]); first | (refine hK _ ?_; clear hK K) | (apply Exists.intro; refine ⟨fun x => ?_, hK _ ?_⟩; (first | fail); clear hK K))) | ((first | apply gAsk_no1 | apply gAsk_no2); kernel_rfl; intro K hK; simp [go_sem]; refine hK _ ?_; clear hK K) | (apply gAsk_part; kernel_rfl; all_goals (intro h K hK; (try simp only [Bool.not_true] at h); (try simp only [Bool.not_false] at h); (try simp only [decide_eq_true_eq] at h); (try simp only [decide_eq_false_iff_not] at h); first | (exfalso; first | contradiction | omega) | (go_simp; (try (simp only [↓IntWalk.iteOmega]; try go_simp)); (try simp (disch := omega) only [IntWalk.i64_in]); (try simp (disch := omega) only [IntWalk.u64_in]); first | (refine hK _ ?_; clear hK K) | (apply Exists.intro; refine ⟨fun x => ?_, hK _ ?_⟩; (first | fail); clear hK K))))))); all_goals ((apply gLex_end); intro x))
      go_wp2_with fail
      go_ret
      exact ⟨by simp, GG⟩
end Go.Proofs.YtomednfddpggaaaGreat

/- Contract: an own row is sorted. -/
namespace Go.Proofs.YtomednfddpggaaaGreat
open Go Go.RowKit
def srtI (xs : List Int) : List Int := xs.mergeSort fun x y => decide (x ≤ y)
theorem srtI_len (xs : List Int) : (srtI xs).length = xs.length := List.length_mergeSort _
theorem srtI_mem {xs : List Int} {x : Int} : x ∈ srtI xs ↔ x ∈ xs := List.mem_mergeSort
theorem sortOwnT (B : Nat) (w : World) (A : Option Addr) (n c : Nat) (xs : List Int) (ho : Own w B 3 1 A n c (xs.map (.int .i64))) (hn : n ≤ 1000000) :
    Calls Tryz.prog 44 #[.slice A n c] w fun e w' => e = .returned (.tuple #[]) ∧ Touch (fun k => ∃ p, A = some p ∧ p.block = k) w w' ∧ Own w' B 3 1 A n c ((srtI xs).map (.int .i64)) := by
  have hl : xs.length = n := by simpa using ho.len
  rcases Nat.eq_zero_or_pos n with h0 | h0
  · subst h0
    have hx : xs = [] := List.eq_nil_of_length_eq_zero hl
    subst hx
    refine (Tryz.slices_Sort_int_none A c w).mono ?_
    rintro e w' ⟨rfl, rfl⟩
    exact ⟨rfl, Touch.refl _ _, by simpa [srtI] using ho⟩
  · obtain ⟨g, cur, rfl, hB, hh, hc, hs, ht⟩ := ho.at_ h0
    have hm : c ≤ maxLen := by
      rcases ho.2 with ⟨h1, _⟩ | ⟨g2, cap, cur2, h1, _, _, _, h5, _⟩
      · cases h1
      · injection h1 with _ _ h7; subst h7; exact h5
    subst hl
    have hH := holds_of_blockI (ss := xs) hh (by rw [Nat.mul_one] at ht; exact ht)
    refine (Tryz.slices_Sort_int g 0 c xs w hH (Array.getElem?_eq_some_iff.1 hh).1 (by omega)).mono ?_
    rintro e w' ⟨rfl, k, os, rfl⟩
    have hg1 := grownBy_sortedI (w := w) (g := g) (n := k) (os := os) (srtI xs).toArray
    have ho1 := ownsRow_sortedI (w := w) (base := B) (g := g) (n := k) (cap := c) (os := os) (ss := xs) (ts := srtI xs) (srtI_len xs) hB hh hc hm hs
    exact ⟨rfl, (Touch.refl _ w).grown hg1 (fun k hk => .inl ⟨_, rfl, by simpa using hk⟩), ho1⟩
end Go.Proofs.YtomednfddpggaaaGreat

/- Plain: the rows of nodes and edges that are on shortest ways, as the program and the answer have them. -/
namespace Go.Proofs.YtomednfddpggaaaGreat
open Go Go.RowKit
theorem sorted_ext : ∀ (a b : List Int), a.Pairwise (· < ·) → b.Pairwise (· < ·) → (∀ x, x ∈ a ↔ x ∈ b) → a = b
  | [], [], _, _, _ => rfl
  | [], y :: b, _, _, h => absurd ((h y).2 (by simp)) (by simp)
  | x :: a, [], _, _, h => absurd ((h x).1 (by simp)) (by simp)
  | x :: a, y :: b, ha, hb, h => by
    obtain ⟨ha1, ha2⟩ := List.pairwise_cons.1 ha
    obtain ⟨hb1, hb2⟩ := List.pairwise_cons.1 hb
    have e : x = y := by
      have h1 := (h x).1 (by simp)
      have h2 := (h y).2 (by simp)
      rcases List.mem_cons.1 h1 with h1 | h1
      · exact h1
      · rcases List.mem_cons.1 h2 with h2 | h2
        · exact h2.symm
        · have := ha1 _ h2
          have := hb1 _ h1
          omega
    subst e
    rw [sorted_ext a b ha2 hb2 fun z => ⟨fun hz => ?_, fun hz => ?_⟩]
    · have := (h z).1 (List.mem_cons_of_mem _ hz)
      rcases List.mem_cons.1 this with h1 | h1
      · have := ha1 _ hz
        omega
      · exact h1
    · have := (h z).2 (List.mem_cons_of_mem _ hz)
      rcases List.mem_cons.1 this with h1 | h1
      · have := hb1 _ hz
        omega
      · exact h1
theorem srtI_lt {l : List Int} (h : l.Nodup) : (srtI l).Pairwise (· < ·) := by
  have h1 : (srtI l).Pairwise (· ≤ ·) := by
    have := List.pairwise_mergeSort (le := fun x y : Int => decide (x ≤ y)) (fun a b c h1 h2 => by simp at *; omega) (fun a b => by simp; omega) l
    exact this.imp fun h => by simpa using h
  have h2 : (srtI l).Pairwise (· ≠ ·) := (List.mergeSort_perm l _).nodup_iff.2 h
  exact (h1.and h2).imp fun h => by have := h.1; have := h.2; omega
theorem fltL_lt (p : Nat → Bool) (n : Nat) : (fltL p n).Pairwise (· < ·) := by
  unfold fltL
  refine List.pairwise_map.2 ?_
  exact (List.pairwise_lt_range.filter p).imp fun h => by omega
theorem fltL_mem {p : Nat → Bool} {n : Nat} {x : Int} : x ∈ fltL p n ↔ ∃ k : Nat, k < n ∧ p k = true ∧ x = (k : Int) := by
  unfold fltL
  rw [List.mem_map]
  constructor
  · rintro ⟨k, hk, rfl⟩
    obtain ⟨h1, h2⟩ := List.mem_filter.1 hk
    exact ⟨k, List.mem_range.1 h1, h2, rfl⟩
  · rintro ⟨k, h1, h2, rfl⟩
    exact ⟨k, List.mem_filter.2 ⟨List.mem_range.2 h1, h2⟩, rfl⟩
theorem fltL_congr {p q : Nat → Bool} {n : Nat} (h : ∀ k, k < n → p k = q k) : fltL p n = fltL q n := by
  unfold fltL
  rw [List.filter_congr fun x hx => h x (List.mem_range.1 hx)]
theorem nodes_is {N t : Nat} {T F : List Nat} {ol : List Int} (h1 : ol.Nodup) (h2 : ∀ v, v ∈ ol → 0 ≤ v ∧ v < N) (h3 : ∀ v : Nat, v < N → thB N T F t v = true → (v : Int) ∈ ol) :
    srtI (ol.filter fun v => !(!thB N T F t v)) = fltL (fun k => thB N T F t k) N := by
  refine sorted_ext _ _ (srtI_lt (h1.filter _)) (fltL_lt _ _) fun x => ?_
  rw [srtI_mem, List.mem_filter, fltL_mem, Bool.not_not]
  constructor
  · rintro ⟨hx, hb⟩
    have := h2 x hx
    exact ⟨x.toNat, by omega, by rw [Int.toNat_of_nonneg this.1]; exact hb, (Int.toNat_of_nonneg this.1).symm⟩
  · rintro ⟨k, hk, hb, rfl⟩
    exact ⟨h3 k hk hb, hb⟩
def fltN (p : Nat → Bool) (n : Nat) : List Nat := (List.range n).filter p
theorem fltN_lt {p : Nat → Bool} {n i : Nat} (h : i ∈ fltN p n) : i < n ∧ p i = true := by
  obtain ⟨h1, h2⟩ := List.mem_filter.1 h
  exact ⟨List.mem_range.1 h1, h2⟩
theorem fltN_map (p : Nat → Bool) (n : Nat) : (fltN p n).map (fun i : Nat => (i : Int)) = fltL p n := rfl
theorem fltN_filter (p q : Nat → Bool) (n : Nat) : ((fltN p n).filter q).map (fun i : Nat => (i : Int)) = fltL (fun i => p i && q i) n := by
  unfold fltN fltL
  rw [List.filter_filter]
  congr 2
  funext i
  rw [Bool.and_comm]
def ovL (E : List Edg) (T : List Nat) (p : Nat → Bool) (i : Nat) : Bool := (fltL p E.length).any fun k => ovB T i k.toNat (fN E k.toNat) (tN E k.toNat) (gn T (fN E i)) (gn T (tN E i))
theorem onP_is {N s t i : Nat} {E : List Edg} (hr : rightF N E = 0) (ht : t < N) (hi : i < E.length) : onP N E (DsF N E s) (BkF N E t) t i = true ↔ OnE N E s t i := by
  obtain ⟨r1, r2, r3, r4, r5⟩ := right_in hr
  rw [Int.toNat_natCast] at r4
  have n2 := r4.t i hi
  unfold onP onB OnE
  rw [decide_eq_true_eq]
  have e : gn (BkF N E t) (tN E i) = dF N E (tN E i) t := dF_back hr (by unfold tN; omega) ht
  rw [e]
  rfl
theorem bridges_is {N s t : Nat} {E : List Edg} (hr : rightF N E = 0) (hs : s < N) (ht : t < N) (hf : gn (DsF N E s) t < farV) :
    fltL (fun i => onP N E (DsF N E s) (BkF N E t) t i && !ovL E (DsF N E s) (onP N E (DsF N E s) (BkF N E t) t) i) E.length =
    fltL (fun i => onP N E (DsF N E s) (BkF N E t) t i && decide (gn (DsF N E s) t < gn (refL (eX N E i) s) t)) E.length := by
  refine fltL_congr fun i hi => ?_
  cases ho : onP N E (DsF N E s) (BkF N E t) t i with
  | false => rfl
  | true =>
    rw [Bool.true_and, Bool.true_and]
    have hb := bridge_is hr hs ht hf hi ((onP_is hr ht hi).1 ho)
    have hov : ovL E (DsF N E s) (onP N E (DsF N E s) (BkF N E t) t) i = true ↔ ∃ k, k < E.length ∧ OnE N E s t k ∧ k ≠ i ∧ dF N E s (fN E k) < dF N E s (tN E i) ∧ dF N E s (fN E i) < dF N E s (tN E k) := by
      unfold ovL
      rw [List.any_eq_true]
      constructor
      · rintro ⟨x, hx, hv⟩
        obtain ⟨k, hk, hp, rfl⟩ := fltL_mem.1 hx
        rw [Int.toNat_natCast] at hv
        unfold ovB at hv
        simp only [Bool.and_eq_true, decide_eq_true_eq] at hv
        exact ⟨k, hk, (onP_is hr ht hk).1 hp, hv.1, hv.2.1, hv.2.2⟩
      · rintro ⟨k, hk, hon, hne, h1, h2⟩
        refine ⟨(k : Int), fltL_mem.2 ⟨k, hk, (onP_is hr ht hk).2 hon, rfl⟩, ?_⟩
        rw [Int.toNat_natCast]
        unfold ovB
        simp only [Bool.and_eq_true, decide_eq_true_eq]
        exact ⟨hne, h1, h2⟩
    have e : gn (DsF N E s) t = dF N E s t := rfl
    rw [e]
    by_cases hlt : dF N E s t < gn (refL (eX N E i) s) t
    · rw [decide_eq_true hlt, Bool.not_eq_true', ← Bool.not_eq_true, hov]
      exact hb.1 hlt
    · rw [decide_eq_false hlt, Bool.not_eq_false', hov]
      exact Classical.byContradiction fun h => hlt (hb.2 h)
end Go.Proofs.YtomednfddpggaaaGreat

/- Regions that draw their order: an operation whose value hangs on the world (guarded or not), and one that reads such a value. -/
namespace Go.Proofs.YtomednfddpggaaaGreat
open Go Go.RowKit
section
variable {P : Program} {w0 : World} {ops : Array Oper} {Q : Act → Env → Prop} {a : Act} {G : Env} {o : Oper} {rest : List Oper}
theorem gLex_propW {t : Tmp} (hw : Region.wanted o (yielded ops a.tmps) = true) (hp : plainB ops o G = true) (hd : o.dst = some t) (hlt : t < a.tmps.size)
    (p : Pr) (hl : Lasts p) (hr : ∀ x : Later w0, runsTo P (fun u w' => Grows x.now w' ∧ p u w') ((execOp a.eval o).run P x.now))
    (h : gLex P ops w0 Q rest a (G.upd t p)) : gLex P ops w0 Q (o :: rest) a G := by
  obtain ⟨h1, h2, h3, h4⟩ := plain_spec hp
  refine ⟨.inr p, ⟨h1, h2, .inl ⟨hw, hl, ⟨t, hd, hlt⟩, fun w hw a' ha' => ?_⟩⟩, ?_⟩
  · rw [exec_same h4 h3 ha']
    exact hr ⟨w, hw⟩
  · rw [hd]
    exact h
def depB (ops : Array Oper) (o : Oper) (G : Env) (t0 : Tmp) : Bool :=
  ((o.looksAt ops).all fun t => t == t0 || (G t).isNone) && (o.looksAt ops).contains t0 && (match o.dst with | some d => (G d).isNone | none => true) && (match o.op with | .select .. => false | _ => true) &&
    (match o.guard with | some (g, _) => (match (ops[g]?).bind (·.dst) with | some t => t != t0 | none => true) | none => true)
theorem dep_spec {t0 : Tmp} (h : depB ops o G t0 = true) : guardFree ops o G ∧ dstFree o G ∧ (∀ t ∈ o.looksAt ops, t = t0 ∨ G t = none) ∧ t0 ∈ o.looksAt ops ∧ ∀ cs b, o.op ≠ .select cs b := by
  unfold depB at h
  simp only [Bool.and_eq_true, List.all_eq_true, Bool.or_eq_true, Option.isNone_iff_eq_none, beq_iff_eq, List.contains_iff_mem] at h
  obtain ⟨⟨⟨⟨h1, h2⟩, h3⟩, h4⟩, h5⟩ := h
  refine ⟨fun g b t e1 e2 => ?_, fun d e => ?_, h1, h2, fun cs b e => ?_⟩
  · rcases h1 t (mem_looks_guard e1 e2) with e | e
    · rw [e1] at h5
      simp only [e2] at h5
      subst e
      simp at h5
    · exact e
  · rw [e] at h3; simpa using h3
  · rw [e] at h4; simp at h4
theorem gLex_dep {t0 t : Tmp} {p0 : Pr} (hw : Region.wanted o (yielded ops a.tmps) = true) (hp : depB ops o G t0 = true) (h0 : G t0 = some p0) (ht0 : t0 < a.tmps.size) (hd : o.dst = some t) (hlt : t < a.tmps.size)
    (p : Pr) (hl : Lasts p) (hr : ∀ (x : Later w0) (v : Value), p0 v x.now → runsTo P (fun u w' => Grows x.now w' ∧ p u w') ((execOp (a.put (some t0) v).eval o).run P x.now))
    (h : gLex P ops w0 Q rest a (G.upd t p)) : gLex P ops w0 Q (o :: rest) a G := by
  obtain ⟨h1, h2, h3, h4, h5⟩ := dep_spec hp
  refine ⟨.inr p, ⟨h1, h2, .inl ⟨hw, hl, ⟨t, hd, hlt⟩, fun w hw a' ha' => ?_⟩⟩, ?_⟩
  · have hv := ha' t0 h4
    unfold relAt at hv
    rw [h0] at hv
    obtain ⟨v, hv, hpv⟩ := hv
    have e : execOp a'.eval o = execOp (a.put (some t0) v).eval o := by
      refine execOp_congr o h5 fun x hx => ?_
      cases x with
      | tmp t =>
        have ht : t ∈ o.looksAt ops := List.mem_append_left _ (List.mem_filterMap.2 ⟨.tmp t, by simpa using hx, rfl⟩)
        have h' : a'.tmps[t]? = (a.put (some t0) v).tmps[t]? := by
          by_cases e : t = t0
          · subst e
            rw [hv]
            simp [Act.put, ht0]
          · have h6 := ha' t ht
            unfold relAt at h6
            rw [(h3 t ht).resolve_left e] at h6
            rw [h6]
            simp [Act.put, Array.getElem?_setIfInBounds_ne (Ne.symm e)]
        simp only [Act.eval, Array.getD_eq_getD_getElem?, h']
      | _ => rfl
    rw [e]
    exact hr ⟨w, hw⟩ v hpv
  · rw [hd]
    exact h
end
def RowP (n : Nat) (xs : List Value) : Pr := fun u w => ∃ A c, u = .slice A n c ∧ Rd w A 1 n xs
theorem RowP.lasts (n : Nat) (xs : List Value) : Lasts (RowP n xs) := fun _ _ _ hg ⟨A, c, e, h⟩ => ⟨A, c, e, h.grows hg⟩
end Go.Proofs.YtomednfddpggaaaGreat
