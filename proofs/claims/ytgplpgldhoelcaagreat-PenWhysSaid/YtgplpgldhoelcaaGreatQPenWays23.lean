/- Contract: pen.Why. -/
import Derived.Test.YtgplpgldhoelcaaGreatQPenWays06
import Derived.Test.YtgplpgldhoelcaaGreatQPenWays15
import Derived.Test.YtgplpgldhoelcaaGreatQPenWays18
import Derived.Test.YtgplpgldhoelcaaGreatQPenWays20
import Derived.Test.YtgplpgldhoelcaaGreatQPenWays22
namespace Go.Proofs.YtgplpgldhoelcaaGreat
open Go Go.RowKit
attribute [local go_sem] Oper.semAt_some
theorem run_store_fnP {P : Program} {w : World} {a : Addr} {m : Mode} (fn : Fn) (first captured : Array Value) : (store a (.func fn first captured) m).run P w = stored P w a (.func fn first captured) m := run_store P w a _ m rfl
attribute [local go_sem] run_store_fnP
theorem box4 (w : World) (c1 c2 c3 c4 : List Value) (t1 t2 t3 t4 : TypeId) :
    Grows w ((((w.alloc (.cells c1.toArray t1)).alloc (.cells c2.toArray t2)).alloc (.cells c3.toArray t3)).alloc (.cells c4.toArray t4)) ∧
    Arr ((((w.alloc (.cells c1.toArray t1)).alloc (.cells c2.toArray t2)).alloc (.cells c3.toArray t3)).alloc (.cells c4.toArray t4)) w.heap.size t1 c1 ∧
    Arr ((((w.alloc (.cells c1.toArray t1)).alloc (.cells c2.toArray t2)).alloc (.cells c3.toArray t3)).alloc (.cells c4.toArray t4)) (w.heap.size + 1) t2 c2 ∧
    Arr ((((w.alloc (.cells c1.toArray t1)).alloc (.cells c2.toArray t2)).alloc (.cells c3.toArray t3)).alloc (.cells c4.toArray t4)) (w.heap.size + 1 + 1) t3 c3 ∧
    Arr ((((w.alloc (.cells c1.toArray t1)).alloc (.cells c2.toArray t2)).alloc (.cells c3.toArray t3)).alloc (.cells c4.toArray t4)) (w.heap.size + 1 + 1 + 1) t4 c4 := by
  have n : ∀ (X : World) (o : Obj), Grows X (X.alloc o) := fun X o => (Grows.refl X).new o
  have sz : ∀ (X : World) (o : Obj), (X.alloc o).heap.size = X.heap.size + 1 := fun X o => by simp
  refine ⟨(((n _ _).trans (n _ _)).trans (n _ _)).trans (n _ _), (Arr.make _ _ _).grow (((n _ _).trans (n _ _)).trans (n _ _)), ?_, ?_, ?_⟩
  · have h := (Arr.make (w.alloc (.cells c1.toArray t1)) c2 t2).grow ((n _ (.cells c3.toArray t3)).trans (n _ (.cells c4.toArray t4)))
    rwa [sz] at h
  · have h := (Arr.make ((w.alloc (.cells c1.toArray t1)).alloc (.cells c2.toArray t2)) c3 t3).grow (n _ (.cells c4.toArray t4))
    rwa [sz, sz] at h
  · have h := Arr.make (((w.alloc (.cells c1.toArray t1)).alloc (.cells c2.toArray t2)).alloc (.cells c3.toArray t3)) c4 t4
    rwa [sz, sz, sz] at h
def whyF (ok sim had sho lit tst : Bool) : Int := if ok then (if sim then (if had then 3 else if sho then (if lit then (if tst then 0 else 6) else 5) else 4) else 2) else 1
structure WhyIn (N s t : Int) (A : Option Addr) (c : Nat) (E : List Edg) (B : Option Addr) (d : Nat) (l : List Int) (A4 : Option Addr) (H : List HR) (o : PO) (p : List Nat) (f : Nat) (r : Int) (ts : Int → Bool) (w : World) : Prop where
  g : Rd w A 3 E.length (esCells E)
  el : E.length ≤ 1000000
  l_ : Rd w B 1 l.length (l.map (.int .i64))
  ll : l.length ≤ 1000
  li : ∀ j, j < l.length → I64 (gi l j)
  had : HadAt w A4 H.length H
  hl : H.length ≤ 100000
  hi : ∀ x ∈ H, x.n ≤ 1000 ∧ ∀ j, j < x.n → I64 (gi x.xs j)
  path : IsPath E (freeO []) N s t p f r
  f64 : f < 18446744073709551616
  u1 : U64 o.f1
  u2 : U64 o.a1
  u3 : U64 o.e1
  u4 : U64 o.g1
  u5 : U64 o.a2
def wlV (N : Int) (E : List Edg) (l : List Int) : Int := if edgesB N E l then wtK E l l.length else 0
def okW (N s t : Int) (E : List Edg) (l : List Int) (o : PO) (r : Int) : Bool := decide (r = 0) && (poB o && (isB N E s l && decide (gi (nodesL N E s l) l.length = t)))
def whyV (N s t : Int) (E : List Edg) (l : List Int) (H : List HR) (o : PO) (f : Nat) (r : Int) (ts : Int → Bool) : Int :=
  whyF (okW N s t E l o r) (simB N E s l) (hadB H l) (stB (wlV N E l) o.e1 o.e2 (f : Int)) (littleB N E l (hRows H) o.g1 o.g2 (f : Int)) ((lvK l (hRows H) l.length).all ts)
theorem whyV_no {N s t : Int} {E : List Edg} {l : List Int} {H : List HR} {o : PO} {f : Nat} {r : Int} {ts : Int → Bool} (h : okW N s t E l o r = false) : whyV N s t E l H o f r ts = 1 := by
  unfold whyV whyF
  rw [h]
  rfl
set_option maxRecDepth 20000 in
set_option maxHeartbeats 8000000 in
theorem penWhyNo (N s t : Int) (A : Option Addr) (c : Nat) (E : List Edg) (B : Option Addr) (d : Nat) (l : List Int) (A4 : Option Addr) (c4 : Nat) (H : List HR) (o : PO) (p : List Nat) (f : Nat) (r : Int) (ts : Int → Bool) (w : World) (hin : WhyIn N s t A c E B d l A4 H o p f r ts w) (hno : okW N s t E l o r = false) :
    Calls Tryz.prog 42 #[.agg #[.int .i64 N, .slice A E.length c], .int .i64 s, .int .i64 t, .slice B l.length d, .slice A4 H.length c4, poV o] w fun e w' => e = .returned (.int .i64 1) ∧ Grows w w' := by
  have C1 := hide (fun (X : World) (g : Grows w X) => show Calls Tryz.prog 95 #[.agg #[.int .i64 N, .slice A E.length c], .int .i64 s, .int .i64 t, .agg #[.bool false, .slice none 0 0, .slice none 0 0, .slice none 0 0, .int .u64 0]] X fun e w' => e = .returned (.tuple #[.int .u64 (f : Int), .int .i64 r]) ∧ Grows X w' from
    djOneD hin.path A c none 0 X (hin.g.grows g) ⟨rfl, fun h => absurd h (by simp)⟩ ⟨rfl, fun h => absurd h (by omega)⟩ hin.el (by simp))
  have C2 := hide (fun (X : World) => penRight o X)
  have C3 := hide (fun (X : World) (g : Grows w X) => pIs N A E.length c E s t B l.length d l X (hin.g.grows g) hin.el (hin.l_.grows g) (by have := hin.ll; omega))
  unfold okW at hno
  generalize (isB N E s l && decide (gi (nodesL N E s l) l.length = t)) = isx at *
  generalize poB o = po at *
  have hcs : ¬ r = 0 ∨ (r = 0 ∧ po = false) ∨ (r = 0 ∧ po = true ∧ isx = false) := by
    by_cases hr : r = 0
    · subst hr
      cases po <;> cases isx <;> simp_all
    · exact .inl hr
  clear hin hno
  generalize E.length = m at *
  generalize l.length = n at *
  generalize H.length = q at *
  obtain ⟨ok_, or_, f1, f2, a1, a2, e1, e2, g1, g2⟩ := o
  unfold poV at C2 ⊢
  dsimp only at C2 ⊢
  rcases hcs with hr | ⟨rfl, rfl⟩ | ⟨rfl, rfl, rfl⟩
  · have hrb : (r != 0) = true := by simpa using hr
    clear hr
    go_enter Tryz.func42, Tryz.ntmps42
    go_wp2_with (go_at_call 95; refine (C1.out _ GG).mono ?_; rintro e w' ⟨rfl, hg⟩; obtain ⟨x1, rfl⟩ := hg.later; clear hg)
    go_ret
    exact ⟨rfl, GG⟩
  · skip
    go_enter Tryz.func42, Tryz.ntmps42
    go_upto_region 1 with fail
    obtain ⟨hgg, a6, a7, a9, a11⟩ := box4 w [.int .i64 N, .slice A m c] [.int .i64 s] [.slice B n d] [.int .i64 ok_, .int .i64 or_, .int .u64 f1, .int .u64 f2, .int .u64 a1, .int .u64 a2, .int .u64 e1, .int .u64 e2, .int .u64 g1, .int .u64 g2] 35 3 22 73
    obtain ⟨wg, hwg⟩ : ∃ wg, wg = ((((w.alloc (.cells #[.int .i64 N, .slice A m c] 35)).alloc (.cells #[.int .i64 s] 3)).alloc (.cells #[.slice B n d] 22)).alloc (.cells #[.int .i64 ok_, .int .i64 or_, .int .u64 f1, .int .u64 f2, .int .u64 a1, .int .u64 a2, .int .u64 e1, .int .u64 e2, .int .u64 g1, .int .u64 g2] 73)) := ⟨_, rfl⟩
    rw [← hwg]
    replace hgg : Grows w wg := by rw [hwg]; exact hgg
    replace a6 : Arr wg w.heap.size 35 [.int .i64 N, .slice A m c] := by rw [hwg]; exact a6
    replace a7 : Arr wg (w.heap.size + 1) 3 [.int .i64 s] := by rw [hwg]; exact a7
    replace a9 : Arr wg (w.heap.size + 1 + 1) 22 [.slice B n d] := by rw [hwg]; exact a9
    replace a11 : Arr wg (w.heap.size + 1 + 1 + 1) 73 [.int .i64 ok_, .int .i64 or_, .int .u64 f1, .int .u64 f2, .int .u64 a1, .int .u64 a2, .int .u64 e1, .int .u64 e2, .int .u64 g1, .int .u64 g2] := by rw [hwg]; exact a11
    clear hwg
    obtain ⟨b11, hb11⟩ : ∃ b, b = w.heap.size + 1 + 1 + 1 := ⟨_, rfl⟩
    rw [← hb11] at a11 ⊢
    clear hb11
    obtain ⟨b9, hb9⟩ : ∃ b, b = w.heap.size + 1 + 1 := ⟨_, rfl⟩
    rw [← hb9] at a9 ⊢
    clear hb9
    obtain ⟨b7, hb7⟩ : ∃ b, b = w.heap.size + 1 := ⟨_, rfl⟩
    rw [← hb7] at a7 ⊢
    clear hb7
    obtain ⟨b6, hb6⟩ : ∃ b, b = w.heap.size := ⟨_, rfl⟩
    rw [← hb6] at a6 ⊢
    clear hb6
    have m6 := a11.mine 6 rfl
    have m7 := a11.mine 7 rfl
    have m8 := a11.mine 8 rfl
    have m9 := a11.mine 9 rfl
    go_wp2_with (first
      | (go_at_call 95; refine (C1.out _ (hgg.trans GG)).mono ?_; rintro e w' ⟨rfl, hg⟩; obtain ⟨x1, rfl⟩ := hg.later; clear hg)
      | (go_at_call 40; refine (C2.out _).mono ?_; rintro e w' ⟨rfl, hg⟩; obtain ⟨x2, rfl⟩ := hg.later; clear hg))
    go_ret
    exact ⟨rfl, hgg.trans GG⟩
  · skip
    go_enter Tryz.func42, Tryz.ntmps42
    go_upto_region 1 with fail
    obtain ⟨hgg, a6, a7, a9, a11⟩ := box4 w [.int .i64 N, .slice A m c] [.int .i64 s] [.slice B n d] [.int .i64 ok_, .int .i64 or_, .int .u64 f1, .int .u64 f2, .int .u64 a1, .int .u64 a2, .int .u64 e1, .int .u64 e2, .int .u64 g1, .int .u64 g2] 35 3 22 73
    obtain ⟨wg, hwg⟩ : ∃ wg, wg = ((((w.alloc (.cells #[.int .i64 N, .slice A m c] 35)).alloc (.cells #[.int .i64 s] 3)).alloc (.cells #[.slice B n d] 22)).alloc (.cells #[.int .i64 ok_, .int .i64 or_, .int .u64 f1, .int .u64 f2, .int .u64 a1, .int .u64 a2, .int .u64 e1, .int .u64 e2, .int .u64 g1, .int .u64 g2] 73)) := ⟨_, rfl⟩
    rw [← hwg]
    replace hgg : Grows w wg := by rw [hwg]; exact hgg
    replace a6 : Arr wg w.heap.size 35 [.int .i64 N, .slice A m c] := by rw [hwg]; exact a6
    replace a7 : Arr wg (w.heap.size + 1) 3 [.int .i64 s] := by rw [hwg]; exact a7
    replace a9 : Arr wg (w.heap.size + 1 + 1) 22 [.slice B n d] := by rw [hwg]; exact a9
    replace a11 : Arr wg (w.heap.size + 1 + 1 + 1) 73 [.int .i64 ok_, .int .i64 or_, .int .u64 f1, .int .u64 f2, .int .u64 a1, .int .u64 a2, .int .u64 e1, .int .u64 e2, .int .u64 g1, .int .u64 g2] := by rw [hwg]; exact a11
    clear hwg
    obtain ⟨b11, hb11⟩ : ∃ b, b = w.heap.size + 1 + 1 + 1 := ⟨_, rfl⟩
    rw [← hb11] at a11 ⊢
    clear hb11
    obtain ⟨b9, hb9⟩ : ∃ b, b = w.heap.size + 1 + 1 := ⟨_, rfl⟩
    rw [← hb9] at a9 ⊢
    clear hb9
    obtain ⟨b7, hb7⟩ : ∃ b, b = w.heap.size + 1 := ⟨_, rfl⟩
    rw [← hb7] at a7 ⊢
    clear hb7
    obtain ⟨b6, hb6⟩ : ∃ b, b = w.heap.size := ⟨_, rfl⟩
    rw [← hb6] at a6 ⊢
    clear hb6
    have m6 := a11.mine 6 rfl
    have m7 := a11.mine 7 rfl
    have m8 := a11.mine 8 rfl
    have m9 := a11.mine 9 rfl
    go_wp2_with (first
      | (go_at_call 95; refine (C1.out _ (hgg.trans GG)).mono ?_; rintro e w' ⟨rfl, hg⟩; obtain ⟨x1, rfl⟩ := hg.later; clear hg)
      | (go_at_call 40; refine (C2.out _).mono ?_; rintro e w' ⟨rfl, hg⟩; obtain ⟨x2, rfl⟩ := hg.later; clear hg)
      | (go_at_call 96; refine (C3.out _ (hgg.trans GG)).mono ?_; rintro e w' ⟨rfl, hg⟩; obtain ⟨x3, rfl⟩ := hg.later; clear hg))
    go_ret
    exact ⟨rfl, hgg.trans GG⟩
set_option maxRecDepth 20000 in
set_option maxHeartbeats 16000000 in
theorem penWhyOk (N s t : Int) (A : Option Addr) (c : Nat) (E : List Edg) (B : Option Addr) (d : Nat) (l : List Int) (A4 : Option Addr) (c4 : Nat) (H : List HR) (o : PO) (p : List Nat) (f : Nat) (r : Int) (ts : Int → Bool) (w : World) (hin : WhyIn N s t A c E B d l A4 H o p f r ts w) (hno : okW N s t E l o r = true)
    (ct : ∀ z W, Grows w W → Calls Tryz.prog 161 #[.agg #[.int .i64 N, .slice A E.length c], .int .i64 s, .slice B l.length d, .int .i64 z, .agg #[.int .u64 o.a1, .int .u64 o.a2], .int .u64 (f : Int)] W fun e w' => e = .returned (.bool (ts z)) ∧ Grows W w') :
    Calls Tryz.prog 42 #[.agg #[.int .i64 N, .slice A E.length c], .int .i64 s, .int .i64 t, .slice B l.length d, .slice A4 H.length c4, poV o] w fun e w' => e = .returned (.int .i64 (whyV N s t E l H o f r ts)) ∧ Grows w w' := by
  have C1 := hide (fun (X : World) (g : Grows w X) => show Calls Tryz.prog 95 #[.agg #[.int .i64 N, .slice A E.length c], .int .i64 s, .int .i64 t, .agg #[.bool false, .slice none 0 0, .slice none 0 0, .slice none 0 0, .int .u64 0]] X fun e w' => e = .returned (.tuple #[.int .u64 (f : Int), .int .i64 r]) ∧ Grows X w' from
    djOneD hin.path A c none 0 X (hin.g.grows g) ⟨rfl, fun h => absurd h (by simp)⟩ ⟨rfl, fun h => absurd h (by omega)⟩ hin.el (by simp))
  have C2 := hide (fun (X : World) => penRight o X)
  have C3 := hide (fun (X : World) (g : Grows w X) => pIs N A E.length c E s t B l.length d l X (hin.g.grows g) hin.el (hin.l_.grows g) (by have := hin.ll; omega))
  have C4 := hide (fun (X : World) (g : Grows w X) => show Calls Tryz.prog 87 #[.agg #[.int .i64 N, .slice A E.length c], .slice B l.length d] X fun e w' => e = .returned (.tuple #[.int .u64 (wlV N E l), .bool (edgesB N E l)]) ∧ Grows X w' from pWeight N A E.length c E B l.length d l X (hin.g.grows g) hin.el (hin.l_.grows g) (by have := hin.ll; omega))
  have C5 := hide (fun (X : World) (g : Grows w X) => penEdges A4 H.length c4 H X (hin.had.grows g) (by have := hin.hl; omega))
  unfold GiveRws at C5
  obtain ⟨hr0, hpo, hix⟩ : r = 0 ∧ poB o = true ∧ (isB N E s l && decide (gi (nodesL N E s l) l.length = t)) = true := by
    unfold okW at hno
    simp only [Bool.and_eq_true, decide_eq_true_eq] at hno ⊢
    exact ⟨hno.1, hno.2.1, hno.2.2⟩
  subst hr0
  have his : isB N E s l = true := by simp only [Bool.and_eq_true] at hix; exact hix.1
  have hra : rrB o.a1 o.a2 = true := by
    unfold poB at hpo
    simp only [Bool.and_eq_true] at hpo
    exact hpo.2.2.2.1
  have hwl : U64 (wlV N E l) := by
    unfold wlV
    split
    · rename_i he
      have h1 := wtK_bd he l.length (Nat.le_refl _)
      have h2 := hin.ll
      exact ⟨h1.1, by omega⟩
    · exact ⟨by omega, by omega⟩
  have hR : ∀ (X : World) (g : Grows w X) (k : Nat), k < H.length → Rd X (gr (hRows H) k).A 1 (gr (hRows H) k).n ((gr (hRows H) k).xs.map (.int .i64)) ∧ (gr (hRows H) k).n ≤ 1000000 ∧ ∀ j, j < (gr (hRows H) k).n → I64 (gi (gr (hRows H) k).xs j) := fun X g k hk => by
    have e : gr (hRows H) k = hrRow (gh H k) := by simp [gr, hRows, gh, hk]
    rw [e]
    have hm := gh_mem hk
    have h1 := hin.hi _ hm
    exact ⟨(hin.had.rows _ hm).1.grows g, by show (gh H k).n ≤ 1000000; omega, h1.2⟩
  have D2 := hide (fun (X : World) (g : Grows w X) (b6 b7 b9 : Nat) (a6 : Arr X b6 35 [.int .i64 N, .slice A E.length c]) (k7 : Holds X ⟨b7, 0, none⟩ (.int .i64 s)) (k9 : Holds X ⟨b9, 0, none⟩ (.slice B l.length d)) => penWhy2 N A E.length c E s B l.length d l b6 b7 b9 X a6 k7 k9 (hin.g.grows g) hin.el (hin.l_.grows g) (by have := hin.ll; omega))
  have D3 := hide (fun (X : World) (g : Grows w X) (A5 : Option Addr) (c5 : Nat) (b9 b17 b18 : Nat) (k9 : Holds X ⟨b9, 0, none⟩ (.slice B l.length d)) (k17 : Holds X ⟨b17, 0, none⟩ (.slice A5 H.length c5)) (k18 : Holds X ⟨b18, 0, none⟩ (.func (.func 98) #[] #[.pointer (some ⟨b9, 0, none⟩)])) (h5 : Rd X A5 1 H.length ((hRows H).map rowVal)) => penWhy3 A5 c5 H B l.length d l b9 b17 b18 X k9 k17 k18 h5 (by have := hin.hl; omega) ((hin.had.grows g).ok) (fun k hk => (hR X g k hk).2.1) (hin.l_.grows g) (by have := hin.ll; omega))
  have D4 := hide (fun (X : World) (b11 b13 b15 : Nat) (k15 : Holds X ⟨b15, 0, none⟩ (.int .u64 (wlV N E l))) (m6 : Mine X ⟨b11, 6, none⟩ (.int .u64 o.e1)) (m7 : Mine X ⟨b11, 7, none⟩ (.int .u64 o.e2)) (k13 : Holds X ⟨b13, 0, none⟩ (.int .u64 (f : Int))) => penWhy4 (wlV N E l) (f : Int) o.e1 o.e2 b11 b13 b15 X k15 m6 m7 k13 hwl ⟨by omega, by have := hin.f64; omega⟩)
  have D5 := hide (fun (X : World) (g : Grows w X) (A5 : Option Addr) (c5 : Nat) (b6 b9 b17 b11 b13 : Nat) (a6 : Arr X b6 35 [.int .i64 N, .slice A E.length c]) (k9 : Holds X ⟨b9, 0, none⟩ (.slice B l.length d)) (k17 : Holds X ⟨b17, 0, none⟩ (.slice A5 H.length c5)) (m8 : Mine X ⟨b11, 8, none⟩ (.int .u64 o.g1)) (m9 : Mine X ⟨b11, 9, none⟩ (.int .u64 o.g2)) (k13 : Holds X ⟨b13, 0, none⟩ (.int .u64 (f : Int))) (h5 : Rd X A5 1 H.length ((hRows H).map rowVal)) => penWhy5 N A E.length c E B l.length d l A5 H.length c5 (hRows H) (f : Int) o.g1 o.g2 b6 b9 b17 b11 b13 X a6 k9 k17 m8 m9 k13 (hin.g.grows g) hin.el (hin.l_.grows g) (by have := hin.ll; omega) h5 (by have := hin.hl; omega) ((hin.had.grows g).ok) (fun k hk => (hR X g k hk).2.1) ⟨by omega, by have := hin.f64; omega⟩)
  have D6 := hide (fun (X : World) (g : Grows w X) (A5 : Option Addr) (c5 : Nat) (b6 b7 b9 b17 b11 b13 : Nat) (a6 : Arr X b6 35 [.int .i64 N, .slice A E.length c]) (k7 : Holds X ⟨b7, 0, none⟩ (.int .i64 s)) (k9 : Holds X ⟨b9, 0, none⟩ (.slice B l.length d)) (k17 : Holds X ⟨b17, 0, none⟩ (.slice A5 H.length c5)) (m4 : Mine X ⟨b11, 4, none⟩ (.int .u64 o.a1)) (m5 : Mine X ⟨b11, 5, none⟩ (.int .u64 o.a2)) (k13 : Holds X ⟨b13, 0, none⟩ (.int .u64 (f : Int))) (h5 : Rd X A5 1 H.length ((hRows H).map rowVal)) =>
    show Calls Tryz.prog 108 #[.pointer (some ⟨b6, 0, none⟩), .pointer (some ⟨b7, 0, none⟩), .pointer (some ⟨b9, 0, none⟩), .pointer (some ⟨b17, 0, none⟩), .pointer (some ⟨b11, 0, none⟩), .pointer (some ⟨b13, 0, none⟩)] X fun e w' => e = .returned (.bool ((lvK l (hRows H) l.length).all ts)) ∧ Grows X w' from by
    have hq := penWhy6 N A c E s B d l A5 H.length c5 (hRows H) (f : Int) o.a1 o.a2 true ts b6 b7 b9 b17 b11 b13 X a6 k7 k9 k17 m4 m5 k13 (hin.g.grows g) hin.el (hin.l_.grows g) hin.ll hin.li h5 hin.hl (hR X g) his (fun z W2 g2 => ct z W2 (g.trans g2))
    rw [hra, Bool.true_and, Bool.true_and] at hq
    exact hq)
  unfold whyV
  rw [hno]
  rw [hpo] at C2
  rw [hix] at C3
  clear hin hno hpo hix his hra hwl hR ct
  generalize simB N E s l = sim at *
  generalize hadB H l = had at *
  generalize wlV N E l = wl at *
  generalize edgesB N E l = eb at *
  generalize stB wl o.e1 o.e2 (f : Int) = sho at *
  generalize littleB N E l (hRows H) o.g1 o.g2 (f : Int) = lit at *
  generalize (lvK l (hRows H) l.length).all ts = tst at *
  generalize (hRows H).map rowVal = rv at *
  generalize E.length = m at *
  generalize l.length = n at *
  generalize H.length = q at *
  obtain ⟨ok_, or_, f1, f2, a1, a2, e1, e2, g1, g2⟩ := o
  unfold poV at C2 ⊢
  dsimp only at C2 D4 D5 D6 ⊢
  go_enter Tryz.func42, Tryz.ntmps42
  go_upto_region 1 with fail
  obtain ⟨hgg, a6, a7, a9, a11⟩ := box4 w [.int .i64 N, .slice A m c] [.int .i64 s] [.slice B n d] [.int .i64 ok_, .int .i64 or_, .int .u64 f1, .int .u64 f2, .int .u64 a1, .int .u64 a2, .int .u64 e1, .int .u64 e2, .int .u64 g1, .int .u64 g2] 35 3 22 73
  obtain ⟨wg, hwg⟩ : ∃ wg, wg = ((((w.alloc (.cells #[.int .i64 N, .slice A m c] 35)).alloc (.cells #[.int .i64 s] 3)).alloc (.cells #[.slice B n d] 22)).alloc (.cells #[.int .i64 ok_, .int .i64 or_, .int .u64 f1, .int .u64 f2, .int .u64 a1, .int .u64 a2, .int .u64 e1, .int .u64 e2, .int .u64 g1, .int .u64 g2] 73)) := ⟨_, rfl⟩
  rw [← hwg]
  replace hgg : Grows w wg := by rw [hwg]; exact hgg
  replace a6 : Arr wg w.heap.size 35 [.int .i64 N, .slice A m c] := by rw [hwg]; exact a6
  replace a7 : Arr wg (w.heap.size + 1) 3 [.int .i64 s] := by rw [hwg]; exact a7
  replace a9 : Arr wg (w.heap.size + 1 + 1) 22 [.slice B n d] := by rw [hwg]; exact a9
  replace a11 : Arr wg (w.heap.size + 1 + 1 + 1) 73 [.int .i64 ok_, .int .i64 or_, .int .u64 f1, .int .u64 f2, .int .u64 a1, .int .u64 a2, .int .u64 e1, .int .u64 e2, .int .u64 g1, .int .u64 g2] := by rw [hwg]; exact a11
  clear hwg
  obtain ⟨b11, hb11⟩ : ∃ b, b = w.heap.size + 1 + 1 + 1 := ⟨_, rfl⟩
  rw [← hb11] at a11 ⊢
  clear hb11
  obtain ⟨b9, hb9⟩ : ∃ b, b = w.heap.size + 1 + 1 := ⟨_, rfl⟩
  rw [← hb9] at a9 ⊢
  clear hb9
  obtain ⟨b7, hb7⟩ : ∃ b, b = w.heap.size + 1 := ⟨_, rfl⟩
  rw [← hb7] at a7 ⊢
  clear hb7
  obtain ⟨b6, hb6⟩ : ∃ b, b = w.heap.size := ⟨_, rfl⟩
  rw [← hb6] at a6 ⊢
  clear hb6
  have m6 := a11.mine 6 rfl
  have m7 := a11.mine 7 rfl
  have m8 := a11.mine 8 rfl
  have m9 := a11.mine 9 rfl
  go_upto_region 2 with (go_at_call 95; refine (C1.out _ (hgg.trans GG)).mono ?_; rintro e w' ⟨rfl, hg⟩; obtain ⟨x1, rfl⟩ := hg.later; clear hg)
  obtain ⟨W2, hW2⟩ : ∃ W, W = x1.now.alloc (.cells #[.int .u64 (f : Int)] 41) := ⟨_, rfl⟩
  have g2 : Grows wg W2 := by rw [hW2]; exact x1.grows.new _
  have k13 : Arr W2 x1.now.heap.size 41 [.int .u64 (f : Int)] := by rw [hW2]; exact Arr.make _ _ _
  rw [← hW2]
  clear hW2
  obtain ⟨b13, hb13⟩ : ∃ b, b = x1.now.heap.size := ⟨_, rfl⟩
  rw [← hb13] at k13 ⊢
  clear hb13
  obtain ⟨y2, rfl⟩ := g2.later
  clear g2
  go_upto_region 5 with (first
    | (go_at_call 40; refine (C2.out _).mono ?_; rintro e w' ⟨rfl, hg⟩; obtain ⟨x2, rfl⟩ := hg.later; clear hg)
    | (go_at_call 96; refine (C3.out _ (hgg.trans GG)).mono ?_; rintro e w' ⟨rfl, hg⟩; obtain ⟨x3, rfl⟩ := hg.later; clear hg)
    | (go_at_call 87; refine (C4.out _ (hgg.trans GG)).mono ?_; rintro e w' ⟨rfl, hg⟩; obtain ⟨x4, rfl⟩ := hg.later; clear hg))
  obtain ⟨W4, hW4⟩ : ∃ W, W = x4.now.alloc (.cells #[.int .u64 wl] 41) := ⟨_, rfl⟩
  have g4 : Grows y2.now W4 := by rw [hW4]; exact GG
  have k15 : Arr W4 x4.now.heap.size 41 [.int .u64 wl] := by rw [hW4]; exact Arr.make _ _ _
  rw [← hW4]
  clear hW4
  obtain ⟨b15, hb15⟩ : ∃ b, b = x4.now.heap.size := ⟨_, rfl⟩
  rw [← hb15] at k15 ⊢
  clear hb15
  obtain ⟨y4, rfl⟩ := g4.later
  clear g4
  go_upto_region 6 with (go_at_call 97; refine (C5.out _ (hgg.trans GG)).mono ?_; rintro e w' ⟨A5, c5, rfl, hr5, hg⟩; obtain ⟨x5, rfl⟩ := hg.later; clear hg)
  obtain ⟨W5, hW5⟩ : ∃ W, W = x5.now.alloc (.cells #[.slice A5 q c5] 149) := ⟨_, rfl⟩
  have g5 : Grows y4.now W5 := by rw [hW5]; exact GG
  have k17 : Arr W5 x5.now.heap.size 149 [.slice A5 q c5] := by rw [hW5]; exact Arr.make _ _ _
  have h5 : Rd W5 A5 1 q rv := by rw [hW5]; exact hr5.grows ((Grows.refl _).new _)
  rw [← hW5]
  clear hW5 hr5
  obtain ⟨b17, hb17⟩ : ∃ b, b = x5.now.heap.size := ⟨_, rfl⟩
  rw [← hb17] at k17 ⊢
  clear hb17
  obtain ⟨y5, rfl⟩ := g5.later
  clear g5
  go_upto_region 7 with fail
  obtain ⟨W6, hW6⟩ : ∃ W, W = y5.now.alloc (.cells #[.func (.func 98) #[] #[.pointer (some ⟨b9, 0, none⟩)]] 32) := ⟨_, rfl⟩
  have g6 : Grows y5.now W6 := by rw [hW6]; exact GG
  have k18 : Arr W6 y5.now.heap.size 32 [.func (.func 98) #[] #[.pointer (some ⟨b9, 0, none⟩)]] := by rw [hW6]; exact Arr.make _ _ _
  rw [← hW6]
  clear hW6
  obtain ⟨b18, hb18⟩ : ∃ b, b = y5.now.heap.size := ⟨_, rfl⟩
  rw [← hb18] at k18 ⊢
  clear hb18
  obtain ⟨y6, rfl⟩ := g6.later
  clear g6
  have ix0 := fun (X : World) => (show (Instr.index 157 (.agg #[.int .i64 2, .func (.func 100) #[] #[.pointer (some ⟨b6, 0, none⟩), .pointer (some ⟨b7, 0, none⟩), .pointer (some ⟨b9, 0, none⟩)], .int .i64 3, .func (.func 102) #[] #[.pointer (some ⟨b17, 0, none⟩), .pointer (some ⟨b18, 0, none⟩)], .int .i64 4, .func (.func 104) #[] #[.pointer (some ⟨b15, 0, none⟩), .pointer (some ⟨b11, 0, none⟩), .pointer (some ⟨b13, 0, none⟩)], .int .i64 5, .func (.func 106) #[] #[.pointer (some ⟨b6, 0, none⟩), .pointer (some ⟨b9, 0, none⟩), .pointer (some ⟨b17, 0, none⟩), .pointer (some ⟨b11, 0, none⟩), .pointer (some ⟨b13, 0, none⟩)], .int .i64 6, .func (.func 108) #[] #[.pointer (some ⟨b6, 0, none⟩), .pointer (some ⟨b7, 0, none⟩), .pointer (some ⟨b9, 0, none⟩), .pointer (some ⟨b17, 0, none⟩), .pointer (some ⟨b11, 0, none⟩), .pointer (some ⟨b13, 0, none⟩)]]) (.int .i64 0)).run Tryz.prog X = .ok (.agg #[.int .i64 2, .func (.func 100) #[] #[.pointer (some ⟨b6, 0, none⟩), .pointer (some ⟨b7, 0, none⟩), .pointer (some ⟨b9, 0, none⟩)]]) X from by kernel_rfl)
  have ix1 := fun (X : World) => (show (Instr.index 157 (.agg #[.int .i64 2, .func (.func 100) #[] #[.pointer (some ⟨b6, 0, none⟩), .pointer (some ⟨b7, 0, none⟩), .pointer (some ⟨b9, 0, none⟩)], .int .i64 3, .func (.func 102) #[] #[.pointer (some ⟨b17, 0, none⟩), .pointer (some ⟨b18, 0, none⟩)], .int .i64 4, .func (.func 104) #[] #[.pointer (some ⟨b15, 0, none⟩), .pointer (some ⟨b11, 0, none⟩), .pointer (some ⟨b13, 0, none⟩)], .int .i64 5, .func (.func 106) #[] #[.pointer (some ⟨b6, 0, none⟩), .pointer (some ⟨b9, 0, none⟩), .pointer (some ⟨b17, 0, none⟩), .pointer (some ⟨b11, 0, none⟩), .pointer (some ⟨b13, 0, none⟩)], .int .i64 6, .func (.func 108) #[] #[.pointer (some ⟨b6, 0, none⟩), .pointer (some ⟨b7, 0, none⟩), .pointer (some ⟨b9, 0, none⟩), .pointer (some ⟨b17, 0, none⟩), .pointer (some ⟨b11, 0, none⟩), .pointer (some ⟨b13, 0, none⟩)]]) (.int .i64 1)).run Tryz.prog X = .ok (.agg #[.int .i64 3, .func (.func 102) #[] #[.pointer (some ⟨b17, 0, none⟩), .pointer (some ⟨b18, 0, none⟩)]]) X from by kernel_rfl)
  have ix2 := fun (X : World) => (show (Instr.index 157 (.agg #[.int .i64 2, .func (.func 100) #[] #[.pointer (some ⟨b6, 0, none⟩), .pointer (some ⟨b7, 0, none⟩), .pointer (some ⟨b9, 0, none⟩)], .int .i64 3, .func (.func 102) #[] #[.pointer (some ⟨b17, 0, none⟩), .pointer (some ⟨b18, 0, none⟩)], .int .i64 4, .func (.func 104) #[] #[.pointer (some ⟨b15, 0, none⟩), .pointer (some ⟨b11, 0, none⟩), .pointer (some ⟨b13, 0, none⟩)], .int .i64 5, .func (.func 106) #[] #[.pointer (some ⟨b6, 0, none⟩), .pointer (some ⟨b9, 0, none⟩), .pointer (some ⟨b17, 0, none⟩), .pointer (some ⟨b11, 0, none⟩), .pointer (some ⟨b13, 0, none⟩)], .int .i64 6, .func (.func 108) #[] #[.pointer (some ⟨b6, 0, none⟩), .pointer (some ⟨b7, 0, none⟩), .pointer (some ⟨b9, 0, none⟩), .pointer (some ⟨b17, 0, none⟩), .pointer (some ⟨b11, 0, none⟩), .pointer (some ⟨b13, 0, none⟩)]]) (.int .i64 2)).run Tryz.prog X = .ok (.agg #[.int .i64 4, .func (.func 104) #[] #[.pointer (some ⟨b15, 0, none⟩), .pointer (some ⟨b11, 0, none⟩), .pointer (some ⟨b13, 0, none⟩)]]) X from by kernel_rfl)
  have ix3 := fun (X : World) => (show (Instr.index 157 (.agg #[.int .i64 2, .func (.func 100) #[] #[.pointer (some ⟨b6, 0, none⟩), .pointer (some ⟨b7, 0, none⟩), .pointer (some ⟨b9, 0, none⟩)], .int .i64 3, .func (.func 102) #[] #[.pointer (some ⟨b17, 0, none⟩), .pointer (some ⟨b18, 0, none⟩)], .int .i64 4, .func (.func 104) #[] #[.pointer (some ⟨b15, 0, none⟩), .pointer (some ⟨b11, 0, none⟩), .pointer (some ⟨b13, 0, none⟩)], .int .i64 5, .func (.func 106) #[] #[.pointer (some ⟨b6, 0, none⟩), .pointer (some ⟨b9, 0, none⟩), .pointer (some ⟨b17, 0, none⟩), .pointer (some ⟨b11, 0, none⟩), .pointer (some ⟨b13, 0, none⟩)], .int .i64 6, .func (.func 108) #[] #[.pointer (some ⟨b6, 0, none⟩), .pointer (some ⟨b7, 0, none⟩), .pointer (some ⟨b9, 0, none⟩), .pointer (some ⟨b17, 0, none⟩), .pointer (some ⟨b11, 0, none⟩), .pointer (some ⟨b13, 0, none⟩)]]) (.int .i64 3)).run Tryz.prog X = .ok (.agg #[.int .i64 5, .func (.func 106) #[] #[.pointer (some ⟨b6, 0, none⟩), .pointer (some ⟨b9, 0, none⟩), .pointer (some ⟨b17, 0, none⟩), .pointer (some ⟨b11, 0, none⟩), .pointer (some ⟨b13, 0, none⟩)]]) X from by kernel_rfl)
  have ix4 := fun (X : World) => (show (Instr.index 157 (.agg #[.int .i64 2, .func (.func 100) #[] #[.pointer (some ⟨b6, 0, none⟩), .pointer (some ⟨b7, 0, none⟩), .pointer (some ⟨b9, 0, none⟩)], .int .i64 3, .func (.func 102) #[] #[.pointer (some ⟨b17, 0, none⟩), .pointer (some ⟨b18, 0, none⟩)], .int .i64 4, .func (.func 104) #[] #[.pointer (some ⟨b15, 0, none⟩), .pointer (some ⟨b11, 0, none⟩), .pointer (some ⟨b13, 0, none⟩)], .int .i64 5, .func (.func 106) #[] #[.pointer (some ⟨b6, 0, none⟩), .pointer (some ⟨b9, 0, none⟩), .pointer (some ⟨b17, 0, none⟩), .pointer (some ⟨b11, 0, none⟩), .pointer (some ⟨b13, 0, none⟩)], .int .i64 6, .func (.func 108) #[] #[.pointer (some ⟨b6, 0, none⟩), .pointer (some ⟨b7, 0, none⟩), .pointer (some ⟨b9, 0, none⟩), .pointer (some ⟨b17, 0, none⟩), .pointer (some ⟨b11, 0, none⟩), .pointer (some ⟨b13, 0, none⟩)]]) (.int .i64 4)).run Tryz.prog X = .ok (.agg #[.int .i64 6, .func (.func 108) #[] #[.pointer (some ⟨b6, 0, none⟩), .pointer (some ⟨b7, 0, none⟩), .pointer (some ⟨b9, 0, none⟩), .pointer (some ⟨b17, 0, none⟩), .pointer (some ⟨b11, 0, none⟩), .pointer (some ⟨b13, 0, none⟩)]]) X from by kernel_rfl)
  have hg6 : Grows wg y6.now := y2.grows.trans (y4.grows.trans (y5.grows.trans y6.grows))
  have a6 := a6.grow hg6
  have a7 := a7.grow hg6
  have a9 := a9.grow hg6
  have a11 := a11.grow hg6
  have k13 := k13.grow (y4.grows.trans (y5.grows.trans y6.grows))
  have k15 := k15.grow (y5.grows.trans y6.grows)
  have k17 := k17.grow y6.grows
  have h5 := h5.grows y6.grows
  have hgw6 := hgg.trans hg6
  have K2 := hide (fun (X : World) (g : Grows y6.now X) => D2.out X (hgw6.trans g) b6 b7 b9 (a6.grow g) ⟨((a7.grow g).mine 0 rfl).cell⟩ ⟨((a9.grow g).mine 0 rfl).cell⟩)
  have K3 := hide (fun (X : World) (g : Grows y6.now X) => D3.out X (hgw6.trans g) A5 c5 b9 b17 b18 ⟨((a9.grow g).mine 0 rfl).cell⟩ ⟨((k17.grow g).mine 0 rfl).cell⟩ ⟨((k18.grow g).mine 0 rfl).cell⟩ (h5.grows g))
  have K4 := hide (fun (X : World) (g : Grows y6.now X) => D4.out X b11 b13 b15 ⟨((k15.grow g).mine 0 rfl).cell⟩ ((a11.grow g).mine 6 rfl) ((a11.grow g).mine 7 rfl) ⟨((k13.grow g).mine 0 rfl).cell⟩)
  have K5 := hide (fun (X : World) (g : Grows y6.now X) => D5.out X (hgw6.trans g) A5 c5 b6 b9 b17 b11 b13 (a6.grow g) ⟨((a9.grow g).mine 0 rfl).cell⟩ ⟨((k17.grow g).mine 0 rfl).cell⟩ ((a11.grow g).mine 8 rfl) ((a11.grow g).mine 9 rfl) ⟨((k13.grow g).mine 0 rfl).cell⟩ (h5.grows g))
  have K6 := hide (fun (X : World) (g : Grows y6.now X) => D6.out X (hgw6.trans g) A5 c5 b6 b7 b9 b17 b11 b13 (a6.grow g) ⟨((a7.grow g).mine 0 rfl).cell⟩ ⟨((a9.grow g).mine 0 rfl).cell⟩ ⟨((k17.grow g).mine 0 rfl).cell⟩ ((a11.grow g).mine 4 rfl) ((a11.grow g).mine 5 rfl) ⟨((k13.grow g).mine 0 rfl).cell⟩ (h5.grows g))
  have HGW := hide hgw6
  clear D2 D3 D4 D5 D6 C1 C2 C3 C4 C5 a6 a7 a9 a11 k13 k15 k17 k18 h5 m6 m7 m8 m9 hgg hg6 hgw6
  have hcs : sim = false ∨ (sim = true ∧ had = true) ∨ (sim = true ∧ had = false ∧ sho = false) ∨ (sim = true ∧ had = false ∧ sho = true ∧ lit = false) ∨ (sim = true ∧ had = false ∧ sho = true ∧ lit = true ∧ tst = false) ∨ (sim = true ∧ had = false ∧ sho = true ∧ lit = true ∧ tst = true) := by
    cases sim <;> cases had <;> cases sho <;> cases lit <;> cases tst <;> simp
  go_wp2_with fail
  rcases hcs with rfl | ⟨rfl, rfl⟩ | ⟨rfl, rfl, rfl⟩ | ⟨rfl, rfl, rfl, rfl⟩ | ⟨rfl, rfl, rfl, rfl, rfl⟩ | ⟨rfl, rfl, rfl, rfl, rfl⟩
  all_goals refine wp_loop_rounds 6 ?_
  all_goals show Code.wp _ _ _ _ _
  · skip
    go_wp2_with (go_at_call 100; refine (K2.out _ GG).mono ?_; rintro e w' ⟨rfl, hg⟩; obtain ⟨x12, rfl⟩ := hg.later; clear hg)
    go_ret
    exact ⟨rfl, HGW.out.trans GG⟩
  · skip
    go_wp2_with (go_at_call 100; refine (K2.out _ GG).mono ?_; rintro e w' ⟨rfl, hg⟩; obtain ⟨x12, rfl⟩ := hg.later; clear hg)
    rw [rounds_succ]
    go_wp2_with (go_at_call 102; refine (K3.out _ GG).mono ?_; rintro e w' ⟨rfl, hg⟩; obtain ⟨x13, rfl⟩ := hg.later; clear hg)
    go_ret
    exact ⟨rfl, HGW.out.trans GG⟩
  · skip
    go_wp2_with (go_at_call 100; refine (K2.out _ GG).mono ?_; rintro e w' ⟨rfl, hg⟩; obtain ⟨x12, rfl⟩ := hg.later; clear hg)
    rw [rounds_succ]
    go_wp2_with (go_at_call 102; refine (K3.out _ GG).mono ?_; rintro e w' ⟨rfl, hg⟩; obtain ⟨x13, rfl⟩ := hg.later; clear hg)
    rw [rounds_succ]
    go_wp2_with (go_at_call 104; refine (K4.out _ GG).mono ?_; rintro e w' ⟨rfl, hg⟩; obtain ⟨x14, rfl⟩ := hg.later; clear hg)
    go_ret
    exact ⟨rfl, HGW.out.trans GG⟩
  · skip
    go_wp2_with (go_at_call 100; refine (K2.out _ GG).mono ?_; rintro e w' ⟨rfl, hg⟩; obtain ⟨x12, rfl⟩ := hg.later; clear hg)
    rw [rounds_succ]
    go_wp2_with (go_at_call 102; refine (K3.out _ GG).mono ?_; rintro e w' ⟨rfl, hg⟩; obtain ⟨x13, rfl⟩ := hg.later; clear hg)
    rw [rounds_succ]
    go_wp2_with (go_at_call 104; refine (K4.out _ GG).mono ?_; rintro e w' ⟨rfl, hg⟩; obtain ⟨x14, rfl⟩ := hg.later; clear hg)
    rw [rounds_succ]
    go_wp2_with (go_at_call 106; refine (K5.out _ GG).mono ?_; rintro e w' ⟨rfl, hg⟩; obtain ⟨x15, rfl⟩ := hg.later; clear hg)
    go_ret
    exact ⟨rfl, HGW.out.trans GG⟩
  · skip
    go_wp2_with (go_at_call 100; refine (K2.out _ GG).mono ?_; rintro e w' ⟨rfl, hg⟩; obtain ⟨x12, rfl⟩ := hg.later; clear hg)
    rw [rounds_succ]
    go_wp2_with (go_at_call 102; refine (K3.out _ GG).mono ?_; rintro e w' ⟨rfl, hg⟩; obtain ⟨x13, rfl⟩ := hg.later; clear hg)
    rw [rounds_succ]
    go_wp2_with (go_at_call 104; refine (K4.out _ GG).mono ?_; rintro e w' ⟨rfl, hg⟩; obtain ⟨x14, rfl⟩ := hg.later; clear hg)
    rw [rounds_succ]
    go_wp2_with (go_at_call 106; refine (K5.out _ GG).mono ?_; rintro e w' ⟨rfl, hg⟩; obtain ⟨x15, rfl⟩ := hg.later; clear hg)
    rw [rounds_succ]
    go_wp2_with (go_at_call 108; refine (K6.out _ GG).mono ?_; rintro e w' ⟨rfl, hg⟩; obtain ⟨x16, rfl⟩ := hg.later; clear hg)
    go_ret
    exact ⟨rfl, HGW.out.trans GG⟩
  · skip
    go_wp2_with (go_at_call 100; refine (K2.out _ GG).mono ?_; rintro e w' ⟨rfl, hg⟩; obtain ⟨x12, rfl⟩ := hg.later; clear hg)
    rw [rounds_succ]
    go_wp2_with (go_at_call 102; refine (K3.out _ GG).mono ?_; rintro e w' ⟨rfl, hg⟩; obtain ⟨x13, rfl⟩ := hg.later; clear hg)
    rw [rounds_succ]
    go_wp2_with (go_at_call 104; refine (K4.out _ GG).mono ?_; rintro e w' ⟨rfl, hg⟩; obtain ⟨x14, rfl⟩ := hg.later; clear hg)
    rw [rounds_succ]
    go_wp2_with (go_at_call 106; refine (K5.out _ GG).mono ?_; rintro e w' ⟨rfl, hg⟩; obtain ⟨x15, rfl⟩ := hg.later; clear hg)
    rw [rounds_succ]
    go_wp2_with (go_at_call 108; refine (K6.out _ GG).mono ?_; rintro e w' ⟨rfl, hg⟩; obtain ⟨x16, rfl⟩ := hg.later; clear hg)
    rw [rounds_succ]
    go_wp2_with fail
    go_ret
    exact ⟨rfl, HGW.out.trans GG⟩
end Go.Proofs.YtgplpgldhoelcaaGreat

namespace Go.Proofs.YtgplpgldhoelcaaGreat
open Go Go.RowKit
def isW (E : List Edg) (t : Nat) : Nat → List Nat → Prop
  | v, [] => v = t
  | v, i :: l => i < E.length ∧ fN E i = v ∧ isW E t (tN E i) l
def wE (E : List Edg) (l : List Nat) : Nat := (l.map fun i => (ge E i).w.toNat).sum
theorem wE_nil (E : List Edg) : wE E [] = 0 := rfl
theorem wE_cons (E : List Edg) (i : Nat) (l : List Nat) : wE E (i :: l) = (ge E i).w.toNat + wE E l := by simp [wE]
theorem wE_append (E : List Edg) (a b : List Nat) : wE E (a ++ b) = wE E a + wE E b := by simp [wE]
def SP (E : List Edg) (s t : Nat) (l : List Nat) : Prop := isW E t s l ∧ (ndsN E s l).Nodup
def cmpL : List Nat → List Nat → Int
  | [], [] => 0
  | [], _ :: _ => -1
  | _ :: _, [] => 1
  | a :: l, b :: m => if a < b then -1 else if b < a then 1 else cmpL l m
theorem cmpL_self : ∀ l, cmpL l l = 0
  | [] => rfl
  | a :: l => by rw [cmpL, if_neg (Nat.lt_irrefl a), if_neg (Nat.lt_irrefl a)]; exact cmpL_self l
theorem cmpL_trans : ∀ {a b c}, cmpL a b = -1 → cmpL b c = -1 → cmpL a c = -1
  | [], b, [], h1, h2 => by
    cases b with
    | nil => rw [cmpL] at h1; omega
    | cons => rw [cmpL] at h2; omega
  | [], b, _ :: _, _, _ => rfl
  | _ :: _, [], _, h1, _ => by rw [cmpL] at h1; omega
  | _ :: _, _ :: _, [], _, h2 => by rw [cmpL] at h2; omega
  | a :: l, b :: m, c :: n, h1, h2 => by
    rw [cmpL] at h1 h2 ⊢
    by_cases e1 : a < b
    · by_cases e2 : b < c
      · rw [if_pos (by omega)]
      · rw [if_neg e2] at h2
        by_cases e3 : c < b
        · rw [if_pos e3] at h2; omega
        · rw [if_pos (by omega)]
    · rw [if_neg e1] at h1
      by_cases e2 : b < a
      · rw [if_pos e2] at h1; omega
      · rw [if_neg e2] at h1
        have e : a = b := by omega
        subst e
        by_cases e3 : a < c
        · rw [if_pos e3]
        · rw [if_neg e3] at h2 ⊢
          by_cases e4 : c < a
          · rw [if_pos e4] at h2; omega
          · rw [if_neg e4] at h2 ⊢
            exact cmpL_trans h1 h2
theorem cmpL_pre : ∀ q {a b}, cmpL (q ++ a) (q ++ b) = cmpL a b
  | [], _, _ => rfl
  | x :: q, a, b => by
    rw [List.cons_append, List.cons_append, cmpL, if_neg (Nat.lt_irrefl x), if_neg (Nat.lt_irrefl x)]
    exact cmpL_pre q
def cmpR (E : List Edg) (a b : List Nat) : Int := if wE E a < wE E b then -1 else if wE E b < wE E a then 1 else cmpL a b
def rLt (E : List Edg) (a b : List Nat) : Prop := cmpR E a b = -1
def rLe (E : List Edg) (a b : List Nat) : Prop := rLt E a b ∨ a = b
theorem rLt_of {E : List Edg} {a b : List Nat} : rLt E a b ↔ wE E a < wE E b ∨ (wE E a = wE E b ∧ cmpL a b = -1) := by
  unfold rLt cmpR
  by_cases h1 : wE E a < wE E b
  · rw [if_pos h1]
    exact ⟨fun _ => .inl h1, fun _ => rfl⟩
  · rw [if_neg h1]
    by_cases h2 : wE E b < wE E a
    · rw [if_pos h2]
      exact ⟨fun h => by omega, fun h => by omega⟩
    · rw [if_neg h2]
      exact ⟨fun h => .inr ⟨by omega, h⟩, fun h => by rcases h with h | h; omega; exact h.2⟩
theorem rLt.trans {E : List Edg} {a b c : List Nat} (h1 : rLt E a b) (h2 : rLt E b c) : rLt E a c := by
  rw [rLt_of] at h1 h2 ⊢
  rcases h1 with h1 | ⟨h1, h3⟩
  · rcases h2 with h2 | ⟨h2, _⟩
    · exact .inl (by omega)
    · exact .inl (by omega)
  · rcases h2 with h2 | ⟨h2, h4⟩
    · exact .inl (by omega)
    · exact .inr ⟨by omega, cmpL_trans h3 h4⟩
theorem rLt.irrefl {E : List Edg} {a : List Nat} (h : rLt E a a) : False := by
  rw [rLt_of, cmpL_self] at h
  omega
theorem rLt.ne {E : List Edg} {a b : List Nat} (h : rLt E a b) : a ≠ b := fun e => by subst e; exact h.irrefl
theorem rLt.not {E : List Edg} {a b : List Nat} (h : rLt E a b) : ¬ rLt E b a := fun h2 => (h.trans h2).irrefl
theorem rLe.trans {E : List Edg} {a b c : List Nat} (h1 : rLe E a b) (h2 : rLe E b c) : rLe E a c := by
  rcases h1 with h1 | rfl
  · rcases h2 with h2 | rfl
    · exact .inl (h1.trans h2)
    · exact .inl h1
  · exact h2
theorem rLe.lt {E : List Edg} {a b c : List Nat} (h1 : rLe E a b) (h2 : rLt E b c) : rLt E a c := by
  rcases h1 with h1 | rfl
  · exact h1.trans h2
  · exact h2
theorem rLe_pre {E : List Edg} {q a b : List Nat} (h : rLe E a b) : rLe E (q ++ a) (q ++ b) := by
  rcases h with h | rfl
  · refine .inl ?_
    rw [rLt_of] at h ⊢
    rw [wE_append, wE_append, cmpL_pre]
    omega
  · exact .inr rfl
theorem isW.append {E : List Edg} {t u : Nat} : ∀ {v : Nat} {a b : List Nat}, isW E u v a → isW E t u b → isW E t v (a ++ b)
  | _, [], _, h1, h2 => by cases h1; exact h2
  | _, _ :: _, _, ⟨h1, h3, h4⟩, h2 => ⟨h1, h3, isW.append h4 h2⟩
theorem ndsN_cons (E : List Edg) (v i : Nat) (l : List Nat) : ndsN E v (i :: l) = v :: ndsN E (tN E i) l := rfl
theorem ndsN_len (E : List Edg) (v : Nat) (l : List Nat) : (ndsN E v l).length = l.length + 1 := by simp [ndsN]
def ndAt (E : List Edg) (v : Nat) (l : List Nat) (i : Nat) : Nat := gn (ndsN E v l) i
theorem ndAt_succ (E : List Edg) (v i : Nat) (l : List Nat) (k : Nat) : ndAt E v (i :: l) (k + 1) = ndAt E (tN E i) l k := rfl
theorem isW.cut {E : List Edg} {t : Nat} : ∀ {v : Nat} {l : List Nat} (i : Nat), i ≤ l.length → isW E t v l → isW E (ndAt E v l i) v (l.take i) ∧ isW E t (ndAt E v l i) (l.drop i)
  | v, l, 0, _, h => by simp only [List.take_zero, List.drop_zero]; exact ⟨rfl, h⟩
  | v, j :: l, i + 1, hi, ⟨h1, h2, h3⟩ => by
    obtain ⟨h4, h5⟩ := isW.cut i (by simpa using hi) h3
    exact ⟨⟨h1, h2, h4⟩, h5⟩
theorem isW.last {E : List Edg} {t : Nat} : ∀ {v : Nat} {l : List Nat}, isW E t v l → ndAt E v l l.length = t
  | _, [], h => h
  | _, i :: l, ⟨_, _, h⟩ => show ndAt E (tN E i) l l.length = t from isW.last (v := tN E i) (l := l) h
theorem isW.edges {E : List Edg} {t : Nat} : ∀ {v : Nat} {l : List Nat}, isW E t v l → ∀ i ∈ l, i < E.length
  | _, [], _, i, hi => by cases hi
  | _, j :: l, ⟨h1, _, h3⟩, i, hi => by
    rcases List.mem_cons.1 hi with e | e
    · rw [e]; exact h1
    · exact isW.edges h3 i e
theorem isW.froms {E : List Edg} {t : Nat} : ∀ {v : Nat} {l : List Nat}, isW E t v l → ∀ i ∈ l, fN E i ∈ ndsN E v l
  | _, [], _, i, hi => by cases hi
  | v, j :: l, ⟨_, h2, h3⟩, i, hi => by
    rw [ndsN_cons]
    rcases List.mem_cons.1 hi with e | e
    · rw [e, h2]; exact List.mem_cons_self ..
    · exact List.mem_cons_of_mem _ (isW.froms h3 i e)
theorem ndsN_cut (E : List Edg) : ∀ (v : Nat) (l : List Nat) (i : Nat), i ≤ l.length → ndsN E v l = (ndsN E v l).take i ++ ndsN E (ndAt E v l i) (l.drop i)
  | v, l, 0, _ => by rw [List.take_zero, List.nil_append, List.drop_zero]; rfl
  | v, j :: l, i + 1, hi => by
    rw [ndsN_cons, List.take_succ_cons, List.cons_append, List.drop_succ_cons, ndAt_succ]
    exact congrArg (v :: ·) (ndsN_cut E (tN E j) l i (by simpa using hi))
theorem ndsN_take (E : List Edg) : ∀ (v : Nat) (l : List Nat) (i : Nat), i ≤ l.length → (ndsN E v l).take (i + 1) = ndsN E v (l.take i)
  | v, l, 0, _ => by simp [ndsN]
  | v, j :: l, i + 1, hi => by
    rw [ndsN_cons, List.take_succ_cons, List.take_succ_cons, ndsN_cons, ndsN_take E (tN E j) l i (by simpa using hi)]
theorem SP.stop {E : List Edg} {s t : Nat} {l : List Nat} (h : SP E s t l) (i : Nat) (hi : i < l.length) : ndAt E s l i ≠ t := by
  intro e
  have h1 := h.1.last
  have h2 := h.2
  have hl := ndsN_len E s l
  have h3 := List.pairwise_iff_getElem.1 h2 i l.length (by omega) (by omega) hi
  unfold ndAt gn at e h1
  rw [List.getD_eq_getElem?_getD, List.getElem?_eq_getElem (by omega)] at e h1
  simp only [Option.getD_some] at e h1
  exact h3 (by rw [e, h1])
theorem ndAt_take {E : List Edg} {v : Nat} {a b : List Nat} {i : Nat} (h : a.take i = b.take i) (ha : i ≤ a.length) (hb : i ≤ b.length) : ndAt E v a i = ndAt E v b i := by
  have h1 := ndsN_take E v a i ha
  have h2 := ndsN_take E v b i hb
  rw [h] at h1
  have h3 := h1.trans h2.symm
  have e : ∀ l : List Nat, gn l i = gn (l.take (i + 1)) i := fun l => by
    unfold gn
    rw [List.getD_eq_getElem?_getD, List.getD_eq_getElem?_getD, List.getElem?_take, if_pos (by omega)]
  unfold ndAt
  rw [e, h3, ← e]
theorem SP.prefix_ {E : List Edg} {s t : Nat} {a p : List Nat} (ha : SP E s t a) (hp : SP E s t p) (h : p.take a.length = a) : p = a := by
  rcases Nat.lt_or_ge a.length p.length with h1 | h1
  · have e := ndAt_take (E := E) (v := s) (i := a.length) (a := p) (b := a) (by rw [h, List.take_length]) (by omega) (Nat.le_refl _)
    rw [ha.1.last] at e
    exact absurd e (hp.stop _ h1)
  · rw [List.take_of_length_le h1] at h
    exact h
theorem Near.low_ {x : Srch} {d : List Nat} {t : Nat} (h : Near x d t) (hw : ∀ i, i < x.E.length → gn x.W i = (ge x.E i).w.toNat) : ∀ {v : Nat} {l : List Nat}, isW x.E t v l → (∀ i ∈ l, cntE x i = true) → wE x.E l < farV → gn d v ≤ wE x.E l
  | _, [], hv, _, _ => by rw [show _ = t from hv, h.zero]; exact Nat.zero_le _
  | v, i :: l, ⟨h1, h2, h3⟩, hc, hf => by
    rw [wE_cons] at hf ⊢
    have h4 := h.low_ hw h3 (fun j hj => hc j (List.mem_cons_of_mem _ hj)) (by omega)
    have h5 := h.edge i h1 (hc i (List.mem_cons_self ..)) (by omega)
    rw [h2, hw i h1] at h5
    omega
theorem Fol.wE_ {x : Srch} {d : List Nat} {t v : Nat} {l : List Nat} (hn : Near x d t) (hw : ∀ i, i < x.E.length → gn x.W i = (ge x.E i).w.toNat) (h : Fol x d t v l) : wE x.E l = gn d v := by
  induction h with
  | here => rw [wE_nil, hn.zero]
  | @step v i l hne hi hfi hb hl hfol ih =>
    rw [wE_cons, ih]
    have := (nearB_yes hb).2.1
    rw [hw i hi] at this
    omega
theorem Fol.isW_ {x : Srch} {d : List Nat} {t v : Nat} {l : List Nat} (h : Fol x d t v l) : isW x.E t v l := by
  induction h with
  | here => rfl
  | step hne hi hfi hb hl hfol ih => exact ⟨hi, hfi, ih⟩
theorem Fol.ne_ {x : Srch} {d : List Nat} {t v : Nat} {l : List Nat} (h : Fol x d t v l) : ∀ i ∈ l, x.ne i = false := by
  induction h with
  | here => intro i hi; cases hi
  | step hne hi hfi hb hl hfol ih =>
    intro j hj
    rcases List.mem_cons.1 hj with e | e
    · rw [e]; exact (nearB_yes hb).2.2
    · exact ih j e
theorem Fol.nn_ {x : Srch} {d : List Nat} {t v : Nat} {l : List Nat} (hn : Near x d t) (h : Fol x d t v l) (hv : v < x.N) (hf : gn d v < farV) : ∀ u ∈ ndsN x.E v l, x.nn u = false := by
  induction h with
  | here => intro u hu; rw [List.mem_singleton.1 hu]; exact hn.clean _ hv hf
  | @step v i l hne hi hfi hb hl hfol ih =>
    intro u hu
    rw [ndsN_cons] at hu
    rcases List.mem_cons.1 hu with e | e
    · rw [e]; exact hn.clean _ hv hf
    · exact ih (hn.ends i hi).2 (nearB_yes hb).1 u e
theorem Fol.first {x : Srch} {d : List Nat} {t v : Nat} {l : List Nat} (hn : Near x d t) (hw : ∀ i, i < x.E.length → gn x.W i = (ge x.E i).w.toNat) (h : Fol x d t v l) : ∀ k, isW x.E t v k → (∀ i ∈ k, cntE x i = true) → wE x.E k < farV → rLe x.E l k := by
  induction h with
  | here =>
    intro k hk _ _
    cases k with
    | nil => exact .inr rfl
    | cons j k =>
      obtain ⟨h1, _, _⟩ := hk
      have := hn.low j h1
      rw [hw j h1] at this
      refine .inl (rLt_of.2 (.inl ?_))
      rw [wE_nil, wE_cons]
      omega
  | @step v i l hne hi hfi hb hl hfol ih =>
    intro k hk hc hf
    cases k with
    | nil => exact absurd hk hne
    | cons j k =>
      obtain ⟨h1, h2, h3⟩ := hk
      rw [wE_cons] at hf
      have hck : ∀ i ∈ k, cntE x i = true := fun q hq => hc q (List.mem_cons_of_mem _ hq)
      have h4 := hn.low_ hw h3 hck (by omega)
      have hcj := hc j (List.mem_cons_self ..)
      have h5 := hn.edge j h1 hcj (by omega)
      rw [h2, hw j h1] at h5
      have h6 := (nearB_yes hb).2.1
      rw [hw i hi] at h6
      have h7 := hfol.wE_ hn hw
      rcases Nat.lt_or_ge (gn d v) ((ge x.E j).w.toNat + wE x.E k) with h8 | h8
      · refine .inl (rLt_of.2 (.inl ?_))
        rw [wE_cons, wE_cons]
        omega
      · have hnb : nearB x d v j = true := by
          unfold nearB
          unfold cntE at hcj
          simp only [Bool.and_eq_true, Bool.not_eq_true'] at hcj
          rw [hcj.1, decide_eq_true (show gn d (tN x.E j) < farV by omega), hw j h1, decide_eq_true (show gn d (tN x.E j) + (ge x.E j).w.toNat = gn d v by omega)]
          rfl
        rcases Nat.lt_trichotomy i j with e | e | e
        · refine .inl (rLt_of.2 (.inr ⟨?_, ?_⟩))
          · rw [wE_cons, wE_cons]
            omega
          · rw [cmpL, if_pos e]
        · subst e
          exact rLe_pre (q := [i]) (ih k h3 hck (by omega))
        · rw [hl j e h2] at hnb
          cases hnb
end Go.Proofs.YtgplpgldhoelcaaGreat

namespace Go.Proofs.YtgplpgldhoelcaaGreat
open Go Go.RowKit
structure Lft (E : List Edg) (t v : Nat) (nn ne : List Int) (l : List Nat) : Prop where
  way : isW E t v l
  edges : ∀ i ∈ l, (i : Int) ∉ ne
  nodes : ∀ u ∈ ndsN E v l, (u : Int) ∉ nn
theorem Lft.cnt {E : List Edg} {N t v : Nat} {nn ne : List Int} {back : Bool} {W : List Nat} {m : Nat} {l : List Nat} (h : Lft E t v nn ne l) : ∀ i ∈ l, cntE (srchOf N E (backO ⟨back, nn, ne, W, m⟩)) i = true := fun i hi => by
  have h1 : (srchOf N E (backO ⟨back, nn, ne, W, m⟩)).ne i = false := decide_eq_false (h.edges i hi)
  have h2 : (srchOf N E (backO ⟨back, nn, ne, W, m⟩)).nn (toE (srchOf N E (backO ⟨back, nn, ne, W, m⟩)) i) = false := decide_eq_false (h.nodes _ (h.way.froms i hi))
  unfold cntE
  rw [h1, h2]
  rfl
theorem wt_plain {N : Nat} {E : List Edg} (hr : rightF (N : Int) E = 0) : ∀ i, i < E.length → gn (wtF (N : Int) E []) i = (ge E i).w.toNat := fun i hi => by
  unfold wtF
  rw [if_neg (by omega), if_neg (by simp), if_neg (by simp)]
  simp [eW, gn, ge, hi]
theorem can_is {E : List Edg} {N v t : Nat} {nn ne : List Int} {l : List Nat} {f : Nat} {r : Int} (hr : rightF (N : Int) E = 0) (hv : v < N) (ht : t < N) (h : IsPath E ⟨false, nn, ne, [], 0⟩ (N : Int) (v : Int) (t : Int) l f r) :
    (r = 0 ∧ Lft E t v nn ne l ∧ (ndsN E v l).Nodup ∧ f = wE E l ∧ f < farV ∧ ∀ k, Lft E t v nn ne k → wE E k < farV → rLe E l k) ∨
    (r ≠ 0 ∧ l = [] ∧ f = 0 ∧ ∀ k, Lft E t v nn ne k → wE E k < farV → False) := by
  have hd : dcF (N : Int) (v : Int) E [] = 0 := by
    unfold dcF
    rw [if_neg (by omega), if_neg (by unfold nodeB; simp; omega)]
    simp
  cases h with
  | bad h => exact absurd hd h
  | noNode _ h => exact absurd (by omega) h
  | noPath NN sN tN xs h1 h2 h3 hp hf =>
    obtain rfl : NN = N := by omega
    obtain rfl : sN = v := by omega
    obtain rfl : tN = t := by omega
    refine .inr ⟨by omega, rfl, rfl, fun k hk hkf => ?_⟩
    have htn : (tN : Int) ∉ nn := hk.nodes tN (by
      have := hk.way.last
      rw [← this]
      unfold ndAt
      have hl : k.length < (ndsN E sN k).length := by rw [ndsN_len]; omega
      unfold gn
      rw [List.getD_eq_getElem?_getD, List.getElem?_eq_getElem hl]
      exact List.getElem_mem hl)
    have hn := hp.near htn
    have := hn.low_ (wt_plain hr) hk.way hk.cnt hkf
    have hs : (srchOf NN E (backO ⟨false, nn, ne, [], 0⟩)).E = E := rfl
    rw [hs, hf] at this
    omega
  | way NN sN tN xs l h1 h2 h3 hp hf hn hl =>
    obtain rfl : NN = N := by omega
    obtain rfl : sN = v := by omega
    obtain rfl : tN = t := by omega
    have hw := wt_plain (N := NN) (E := E) hr
    have e1 := hl.wE_ hn hw
    have hs : (srchOf NN E (backO ⟨false, nn, ne, [], 0⟩)).E = E := rfl
    rw [hs] at e1
    refine .inl ⟨rfl, ⟨hl.isW_, fun i hi => of_decide_eq_false (hl.ne_ i hi), fun u hu => of_decide_eq_false (hl.nn_ hn hp.node hf u hu)⟩, hl.nodup hn hp.node, e1.symm, hf, fun k hk hkf => ?_⟩
    exact hl.first hn hw k hk.way hk.cnt hkf
theorem SP.short {E : List Edg} {N s t : Nat} {l : List Nat} (hr : rightF (N : Int) E = 0) (hs : s < N) (h : SP E s t l) : l.length < N := by
  obtain ⟨_, _, _, r4, _⟩ := right_in hr
  rw [Int.toNat_natCast] at r4
  have hsub : ∀ u ∈ ndsN E s l, u < N := fun u hu => by
    rcases List.mem_cons.1 hu with e | e
    · rw [e]; exact hs
    · obtain ⟨i, hi, rfl⟩ := List.mem_map.1 e
      exact (r4.t i (h.1.edges i hi)).1
  have h1 := List.Nodup.length_le_of_subset h.2 (l₂ := List.range N) (fun u hu => List.mem_range.2 (hsub u hu))
  rw [ndsN_len] at h1
  simp at h1
  omega
theorem wE_le {E : List Edg} {N : Nat} (hr : rightF (N : Int) E = 0) : ∀ l : List Nat, (∀ i ∈ l, i < E.length) → wE E l ≤ l.length * 4294967296
  | [], _ => by simp [wE]
  | i :: l, h => by
    obtain ⟨_, _, _, _, r5⟩ := right_in hr
    have h1 := wE_le hr l (fun j hj => h j (List.mem_cons_of_mem _ hj))
    have h2 := r5 i (h i (List.mem_cons_self ..))
    rw [wE_cons, List.length_cons]
    omega
theorem SP.light {E : List Edg} {N s t : Nat} {l : List Nat} (hr : rightF (N : Int) E = 0) (hs : s < N) (h : SP E s t l) : wE E l < farV ∧ wE E l ≤ 17592186044416 := by
  have h1 := h.short hr hs
  have h2 := wE_le hr l h.1.edges
  obtain ⟨_, r2, _⟩ := right_in hr
  have h3 : l.length * 4294967296 ≤ 4096 * 4294967296 := Nat.mul_le_mul_right _ (by omega)
  unfold farV
  omega
end Go.Proofs.YtgplpgldhoelcaaGreat

namespace Go.Proofs.YtgplpgldhoelcaaGreat
open Go Go.RowKit
def icL (l : List Nat) : List Int := l.map fun (i : Nat) => (i : Int)
theorem icL_nv (l : List Nat) : nv l = (icL l).map (.int .i64) := by unfold nv icL; rw [List.map_map]; rfl
theorem icL_len (l : List Nat) : (icL l).length = l.length := by simp [icL]
structure TrOk (N s t : Int) (E : List Edg) (f1 f2 : Int) (W P : Nat → List Nat) (V : Nat → Nat) : Prop where
  w0 : W 0 = wtF N E []
  ws : ∀ k, W (k + 1) = raiseL (W k) (icL (P k)) f1 f2
  p0 : ∃ r, IsPath E (freeO []) N s t (P 0) (V 0) r
  ps : ∀ k, ∃ f r, IsPath E (freeO (W (k + 1))) N s t (P (k + 1)) f r
  vs : ∀ k, (V (k + 1) : Int) = wlV N E (icL (P (k + 1)))
theorem raiseL_len (W : List Nat) (l : List Int) (a b : Int) : (raiseL W l a b).length = W.length := by unfold raiseL; rw [rsK_len]
theorem wlV_nn {N : Int} {E : List Edg} {l : List Int} : 0 ≤ wlV N E l := by
  unfold wlV
  split
  · rename_i he
    exact (wtK_bd he l.length (Nat.le_refl _)).1
  · omega
theorem tries_any (N s t : Int) (E : List Edg) (f1 f2 : Int) : ∃ W P V, TrOk N s t E f1 f2 W P V := by
  have hany : ∀ X : List Nat, ∃ l : List Nat, ∃ f r, IsPath E (freeO X) N s t l f r := fun X => by
    obtain ⟨l, f, r, hp⟩ := isPath_any E (freeO X) N s t (by show 0 ≤ _; omega) (by show 0 ≤ _; omega)
    exact ⟨l, f, r, hp⟩
  let pick : List Nat → List Nat := fun X => Classical.choose (hany X)
  have hpick : ∀ X, ∃ f r, IsPath E (freeO X) N s t (pick X) f r := fun X => Classical.choose_spec (hany X)
  obtain ⟨f0, r0, hp0⟩ := hpick []
  let st : Nat → List Nat × List Nat := fun k => Nat.rec (wtF N E [], pick []) (fun _ x => (raiseL x.1 (icL x.2) f1 f2, pick (raiseL x.1 (icL x.2) f1 f2))) k
  refine ⟨fun k => (st k).1, fun k => (st k).2, fun k => if k = 0 then f0 else (wlV N E (icL (st k).2)).toNat, rfl, fun k => rfl, ⟨r0, hp0⟩, fun k => hpick _, fun k => ?_⟩
  show (((if k + 1 = 0 then f0 else (wlV N E (icL (st (k + 1)).2)).toNat : Nat)) : Int) = _
  rw [if_neg (by omega), Int.toNat_of_nonneg wlV_nn]
theorem TrOk.wlen {N s t : Int} {E : List Edg} {f1 f2 : Int} {W P : Nat → List Nat} {V : Nat → Nat} (h : TrOk N s t E f1 f2 W P V) (k : Nat) : (W k).length ≤ E.length := by
  induction k with
  | zero =>
    rw [h.w0]
    unfold wtF
    split
    · exact Nat.zero_le _
    · rw [if_neg (by simp), if_neg (by simp)]
      simp [eW]
  | succ k ih =>
    rw [h.ws, raiseL_len]
    exact ih
theorem TrOk.wbound {N s t : Int} {E : List Edg} {f1 f2 : Int} {W P : Nat → List Nat} {V : Nat → Nat} (h : TrOk N s t E f1 f2 W P V) (k : Nat) : ∀ i, gn (W k) i < 18446744073709551616 := by
  induction k with
  | zero =>
    intro i
    rw [h.w0]
    unfold wtF
    split
    · simp [gn]
    · rename_i hr
      rw [if_neg (by simp), if_neg (by simp)]
      have hw := (right_in (N := N) (E := E) (by omega)).2.2.2.2
      by_cases hi : i < E.length
      · have h1 := hw i hi
        have e : gn (eW E) i = (ge E i).w.toNat := by simp [gn, eW, ge, hi]
        omega
      · have e : gn (eW E) i = 0 := by
          unfold gn
          rw [List.getD_eq_getElem?_getD, List.getElem?_eq_none (by simp [eW]; omega)]
          rfl
        omega
  | succ k ih =>
    intro i
    rw [h.ws]
    by_cases hi : i < (W k).length
    · rw [raiseL_at hi]
      split
      · have := upV_le (gn (W k) i) f1 f2 maxPen
        have : maxPen < 18446744073709551616 := by decide
        omega
      · exact ih i
    · have : gn (raiseL (W k) (icL (P k)) f1 f2) i = 0 := by
        unfold gn
        rw [List.getD_eq_getElem?_getD, List.getElem?_eq_none (by rw [raiseL_len]; omega)]
        rfl
      omega
theorem TrOk.short {N s t : Int} {E : List Edg} {f1 f2 : Int} {W P : Nat → List Nat} {V : Nat → Nat} (h : TrOk N s t E f1 f2 W P V) (k : Nat) : (P k).length ≤ 100000 := by
  cases k with
  | zero =>
    obtain ⟨r, hp⟩ := h.p0
    have := hp.short.1
    omega
  | succ k =>
    obtain ⟨f, r, hp⟩ := h.ps k
    have := hp.short.1
    omega
end Go.Proofs.YtgplpgldhoelcaaGreat

