/- Contract: the answer's test whether a row of edges is a way between two nodes. -/
import Derived.Test.YtgplpgldhoelcaaGreatQPenWays11
import Derived.Test.YtgplpgldhoelcaaGreatQPenWays15
import Derived.Test.YtgplpgldhoelcaaGreatQPenWays17
import Derived.Test.YtgplpgldhoelcaaGreatQPenWays22
import Derived.Test.YtgplpgldhoelcaaGreatQPenWays23
import Derived.Test.YtgplpgldhoelcaaGreatQPenWays25
namespace Go.Proofs.YtgplpgldhoelcaaGreat
open Go Go.RowKit
set_option maxRecDepth 20000 in
set_option maxHeartbeats 2000000 in
theorem r8Is (N : Int) (A : Option Addr) (m c : Nat) (E : List Edg) (s t : Int) (B : Option Addr) (n d : Nat) (l : List Int) (w : World) (h : Rd w A 3 m (esCells E)) (hm : m ≤ 1000000) (h' : Rd w B 1 n (l.map (.int .i64))) (hn : n ≤ 100000) :
    Calls Tryz.prog 22 #[.agg #[.int .i64 N, .slice A m c], .int .i64 s, .int .i64 t, .slice B n d] w fun e w' => e = .returned (.bool (isB N E s l && decide (gi (nodesL N E s l) l.length = t))) ∧ Grows w w' := by
  have C := hide (fun (W : World) (g : Grows w W) => r8Nodes N A m c E s B n d l W (h.grows g) hm (h'.grows g) (by omega))
  have hl : l.length = n := by simpa using h'.len
  clear h h'
  subst hl
  cases hq : isB N E s l with
  | false =>
    rw [hq] at C
    rw [Bool.false_and]
    clear hq
    go_enter Tryz.func22, Tryz.ntmps22
    go_wp2_with (go_at_call 74; refine (C.out _ GG).mono ?_; rintro e w' ⟨A7, c7, rfl, _, hg⟩; obtain ⟨x1, rfl⟩ := hg.later; clear hg)
    go_ret
    exact ⟨rfl, GG⟩
  | true =>
    have hk : (nodesL N E s l).length = l.length + 1 := by unfold nodesL; rw [if_pos hq, ndL_len]
    rw [hq] at C
    unfold GiveIB at C
    rw [hk] at C
    rw [Bool.true_and]
    clear hq
    generalize nodesL N E s l = L at *
    generalize l.length = k at *
    by_cases ht : gi L k = t
    · have hb : (gi L k == t) = true := by simpa using ht
      rw [decide_eq_true ht]
      clear ht
      go_enter Tryz.func22, Tryz.ntmps22
      go_wp2_with fail
      refine (C.out _ GG).mono ?_; rintro e w' ⟨A7, c7, rfl, hr, hg⟩
      obtain ⟨b, off, rfl, hc⟩ := hr.ints (by omega)
      have k1 : Holds w' ⟨b, off + k, none⟩ (.int .i64 (gi L k)) := ⟨hc k (by omega)⟩
      obtain ⟨x1, rfl⟩ := hg.later
      clear hg hr hc
      try simp only [Int.natCast_add, Int.natCast_one]
      go_wp2_with fail
      go_ret
      exact ⟨rfl, GG⟩
    · have hb : (gi L k == t) = false := beq_eq_false_iff_ne.2 ht
      rw [decide_eq_false ht]
      clear ht
      go_enter Tryz.func22, Tryz.ntmps22
      go_wp2_with fail
      refine (C.out _ GG).mono ?_; rintro e w' ⟨A7, c7, rfl, hr, hg⟩
      obtain ⟨b, off, rfl, hc⟩ := hr.ints (by omega)
      have k1 : Holds w' ⟨b, off + k, none⟩ (.int .i64 (gi L k)) := ⟨hc k (by omega)⟩
      obtain ⟨x1, rfl⟩ := hg.later
      clear hg hr hc
      try simp only [Int.natCast_add, Int.natCast_one]
      go_wp2_with fail
      go_ret
      exact ⟨rfl, GG⟩
end Go.Proofs.YtgplpgldhoelcaaGreat

namespace Go.Proofs.YtgplpgldhoelcaaGreat
open Go Go.RowKit
attribute [local go_sem] Oper.semAt_some
set_option maxRecDepth 20000 in
set_option maxHeartbeats 16000000 in
theorem r32Why (N s t : Int) (A : Option Addr) (c : Nat) (E : List Edg) (B : Option Addr) (d : Nat) (l : List Int) (A4 : Option Addr) (c4 : Nat) (H : List HR) (o : PO) (p : List Nat) (f : Nat) (r : Int) (ts : Int → Bool) (w : World) (hin : WhyIn N s t A c E B d l A4 H o p f r ts w) (hd : l.length ≤ d)
    (ct : okW N s t E l o r = true → ∀ z W, Grows w W → Calls Tryz.prog 114 #[.agg #[.int .i64 N, .slice A E.length c], .int .i64 s, .slice B l.length d, .int .i64 z, .agg #[.int .u64 o.a1, .int .u64 o.a2], .int .u64 (f : Int)] W fun e w' => e = .returned (.bool (ts z)) ∧ Grows W w') :
    Calls Tryz.prog 43 #[.agg #[.int .i64 N, .slice A E.length c], .int .i64 s, .int .i64 t, .slice B l.length d, .slice A4 H.length c4, poV o] w fun e w' => e = .returned (.int .i64 (whyV N s t E l H o f r ts)) ∧ Grows w w' := by
  have h0 : Rd w none 1 0 [] := ⟨by simp, fun h => absurd h (by simp)⟩
  have hw0 : Rd w none 1 0 (wv []) := ⟨by simp [wv], fun h => absurd h (by simp)⟩
  have C1 := hide (fun (X : World) (g : Grows w X) => show Calls Tryz.prog 88 #[.agg #[.int .i64 N, .slice A E.length c], .int .i64 s, .int .i64 t, .agg #[.bool false, .slice none 0 0, .slice none 0 0, .slice none 0 0, .int .u64 0]] X fun e w' =>
      ∃ A' c', e = .returned (.tuple #[.agg #[.slice A' p.length c', .int .u64 (f : Int)], .int .i64 r]) ∧ Own w' X.heap.size 3 1 A' p.length c' (nv p) ∧ Grows X w' from
    r15Path N s t A c E (freeO []) none none none 0 0 0 p f r X (hin.g.grows g) (h0.grows g) (h0.grows g) (hw0.grows g) hin.el (show (0 : Nat) ≤ 1000000 by omega) hin.path)
  have C2 := hide (fun (X : World) => r32Right o hin.u1 hin.u2 hin.u3 hin.u4 X)
  have C3 := hide (fun (X : World) (g : Grows w X) => r8Is N A E.length c E s t B l.length d l X (hin.g.grows g) hin.el (hin.l_.grows g) (by have := hin.ll; omega))
  have C4 := hide (fun (X : World) (g : Grows w X) => show Calls Tryz.prog 32 #[.agg #[.int .i64 N, .slice A E.length c], .slice B l.length d] X fun e w' => e = .returned (.tuple #[.int .u64 (wlV N E l), .bool (edgesB N E l)]) ∧ Grows X w' from r8Weight N A E.length c E B l.length d l X (hin.g.grows g) hin.el (hin.l_.grows g) (by have := hin.ll; omega))
  have C5 := hide (fun (X : World) (g : Grows w X) => r29Edges A4 H.length c4 H X (hin.had.grows g) (by have := hin.hl; omega))
  unfold GiveRws at C5
  have C6 := hide (fun (X : World) (g : Grows w X) => r8Simple N A E.length c E s B l.length d l X (hin.g.grows g) hin.el (hin.l_.grows g) (by have := hin.ll; omega))
  have C7 := hide (fun (X : World) (g : Grows w X) => r29Had A4 H.length c4 H B l.length d l X (hin.had.grows g) (by have := hin.hl; omega) (fun x hx => by have := (hin.hi x hx).1; omega) (hin.l_.grows g) (by have := hin.ll; omega))
  have hf : U64 (f : Int) := ⟨by omega, by have := hin.f64; omega⟩
  have hwl : U64 (wlV N E l) := by
    unfold wlV
    split
    · rename_i he
      have h1 := wtK_bd he l.length (Nat.le_refl _)
      have h2 := hin.ll
      exact ⟨h1.1, by omega⟩
    · exact ⟨by omega, by omega⟩
  have hR : ∀ (X : World) (g : Grows w X) (k : Nat), k < H.length → Rd X (gr (hRows H) k).A 1 (gr (hRows H) k).n ((gr (hRows H) k).xs.map (.int .i64)) ∧ (gr (hRows H) k).n ≤ 1000000 ∧ ∀ j, j < (gr (hRows H) k).n → I64 (gi (gr (hRows H) k).xs j) := fun X g k hk => by
    have e : gr (hRows H) k = hrRow (gh H k) := by simp [gr, hRows, gh, hk]
    rw [e]
    have hm := gh_mem hk
    have h1 := hin.hi _ hm
    exact ⟨(hin.had.rows _ hm).1.grows g, by show (gh H k).n ≤ 1000000; omega, h1.2⟩
  have C8 := hide (fun (X : World) => rStretched (wlV N E l) o.e1 o.e2 (f : Int) X hwl hin.u3 hf)
  have C9 := hide (fun (X : World) (g : Grows w X) (A5 : Option Addr) (c5 : Nat) (h5 : Rd X A5 1 H.length ((hRows H).map rowVal)) => r26Little N A E.length c E B l.length d l A5 H.length c5 (hRows H) o.g1 o.g2 (f : Int) X (hin.g.grows g) hin.el (hin.l_.grows g) (by have := hin.ll; omega) hd h5 (by have := hin.hl; omega) ((hin.had.grows g).ok) (fun k hk => (hR X g k hk).2.1) hin.u4 hf)
  have C10 := hide (fun (X : World) (g : Grows w X) (A5 : Option Addr) (c5 : Nat) (h5 : Rd X A5 1 H.length ((hRows H).map rowVal)) => r26Leaves B l.length d l A5 H.length c5 (hRows H) X (hin.l_.grows g) (by have := hin.ll; omega) h5 hin.hl (fun k hk => ⟨(hR X g k hk).1, (hR X g k hk).2.1⟩))
  unfold GiveI at C10
  have HCT := hide ct
  clear h0 hw0 hf hwl hR ct
  have hll := hin.ll
  have hlv : (lvK l (hRows H) l.length).length ≤ 2000000 := by have := lvK_len l (hRows H) l.length; omega
  have HN := hide (show okW N s t E l o r = false → whyV N s t E l H o f r ts = 1 from whyV_no)
  have HY := hide (show okW N s t E l o r = true → whyV N s t E l H o f r ts = whyF true (simB N E s l) (hadB H l) (stB (wlV N E l) o.e1 o.e2 (f : Int)) (littleB N E l (hRows H) o.g1 o.g2 (f : Int)) ((lvK l (hRows H) l.length).all ts) from fun h => by unfold whyV; rw [h])
  have HOK := hide (show okW N s t E l o r = (decide (r = 0) && (poB o && (isB N E s l && decide (gi (nodesL N E s l) l.length = t)))) from rfl)
  clear hin
  generalize okW N s t E l o r = okx at *
  generalize whyV N s t E l H o f r ts = res at *
  generalize simB N E s l = sim at *
  generalize hadB H l = had at *
  generalize wlV N E l = wl at *
  generalize edgesB N E l = eb at *
  generalize stB wl o.e1 o.e2 (f : Int) = sho at *
  generalize littleB N E l (hRows H) o.g1 o.g2 (f : Int) = lit at *
  generalize lvK l (hRows H) l.length = lv at *
  generalize (hRows H).map rowVal = rv at *
  generalize (isB N E s l && decide (gi (nodesL N E s l) l.length = t)) = isx at *
  generalize poB o = po at *
  generalize E.length = m at *
  generalize l.length = n at *
  generalize H.length = q at *
  obtain ⟨ok_, or_, f1, f2, a1, a2, e1, e2, g1, g2⟩ := o
  unfold poV at C2 ⊢
  dsimp only at C2 C8 C9 HCT ⊢
  go_enter Tryz.func43, Tryz.ntmps43
  go_upto_region 2 with (go_at_call 88; refine (C1.out _ GG).mono ?_; rintro e w' ⟨A1, c1, rfl, ho, hg⟩; obtain ⟨x1, rfl⟩ := hg.later; have HO := hide ho; clear hg ho)
  obtain ⟨wb, hwb⟩ : ∃ W, W = x1.now.alloc (.cells #[.slice A1 p.length c1, .int .u64 (f : Int)] 53) := ⟨_, rfl⟩
  have g1b : Grows x1.now wb := by rw [hwb]; exact (Grows.refl _).new _
  have hgg : Grows w wb := (show Grows w x1.now from GG).trans g1b
  have a6 : Arr wb w.heap.size 35 [.int .i64 N, .slice A m c] := (((Arr.make w _ _).grow ((Grows.refl _).new _)).grow x1.grows).grow g1b
  have a11 : Arr wb (w.heap.size + 1) 77 [.int .i64 ok_, .int .i64 or_, .int .u64 f1, .int .u64 f2, .int .u64 a1, .int .u64 a2, .int .u64 e1, .int .u64 e2, .int .u64 g1, .int .u64 g2] := by
    have h := Arr.make (w.alloc (.cells #[.int .i64 N, .slice A m c] 35)) [.int .i64 ok_, .int .i64 or_, .int .u64 f1, .int .u64 f2, .int .u64 a1, .int .u64 a2, .int .u64 e1, .int .u64 e2, .int .u64 g1, .int .u64 g2] 77
    have e : (w.alloc (.cells #[.int .i64 N, .slice A m c] 35)).heap.size = w.heap.size + 1 := by simp
    rw [e] at h
    exact (h.grow x1.grows).grow g1b
  have a13 : Arr wb x1.now.heap.size 53 [.slice A1 p.length c1, .int .u64 (f : Int)] := by rw [hwb]; exact Arr.make _ _ _
  rw [← hwb]
  clear hwb HO
  generalize x1.now.heap.size = b13 at *
  generalize w.heap.size + 1 = b11 at *
  obtain ⟨b6, hb6⟩ : ∃ b, b = w.heap.size := ⟨_, rfl⟩
  rw [← hb6] at a6 ⊢
  clear hb6 g1b x1 C1
  have m4 := a11.mine 4 rfl
  have m5 := a11.mine 5 rfl
  have m6 := a11.mine 6 rfl
  have m7 := a11.mine 7 rfl
  have m8 := a11.mine 8 rfl
  have m9 := a11.mine 9 rfl
  have k1 := a13.mine 1 rfl
  by_cases hr : r = 0
  rotate_left
  · obtain rfl : res = 1 := HN.out (by rw [HOK.out, decide_eq_false hr]; rfl)
    have hrb : (r != 0) = true := by simpa using hr
    clear hr
    go_wp2_with fail
    go_ret
    exact ⟨rfl, hgg.trans GG⟩
  subst hr
  cases po with
  | false =>
    obtain rfl : res = 1 := HN.out (by rw [HOK.out]; rfl)
    go_wp2_with (first
      | (go_at_call 41; refine (C2.out _).mono ?_; rintro e w' ⟨rfl, hg⟩; obtain ⟨x2, rfl⟩ := hg.later; clear hg)
      | (go_at_call 22; refine (C3.out _ (hgg.trans GG)).mono ?_; rintro e w' ⟨rfl, hg⟩; obtain ⟨x3, rfl⟩ := hg.later; clear hg)
      | (go_at_call 32; refine (C4.out _ (hgg.trans GG)).mono ?_; rintro e w' ⟨rfl, hg⟩; obtain ⟨x4, rfl⟩ := hg.later; clear hg)
      | (go_at_call 111; refine (C5.out _ (hgg.trans GG)).mono ?_; rintro e w' ⟨A5, c5, rfl, h5, hg⟩; obtain ⟨x5, rfl⟩ := hg.later; have H5 := hide h5; clear h5; clear hg))
    go_ret
    exact ⟨rfl, hgg.trans GG⟩
  | true =>
    cases isx with
    | false =>
      obtain rfl : res = 1 := HN.out (by rw [HOK.out]; rfl)
      go_wp2_with (first
      | (go_at_call 41; refine (C2.out _).mono ?_; rintro e w' ⟨rfl, hg⟩; obtain ⟨x2, rfl⟩ := hg.later; clear hg)
      | (go_at_call 22; refine (C3.out _ (hgg.trans GG)).mono ?_; rintro e w' ⟨rfl, hg⟩; obtain ⟨x3, rfl⟩ := hg.later; clear hg)
      | (go_at_call 32; refine (C4.out _ (hgg.trans GG)).mono ?_; rintro e w' ⟨rfl, hg⟩; obtain ⟨x4, rfl⟩ := hg.later; clear hg)
      | (go_at_call 111; refine (C5.out _ (hgg.trans GG)).mono ?_; rintro e w' ⟨A5, c5, rfl, h5, hg⟩; obtain ⟨x5, rfl⟩ := hg.later; have H5 := hide h5; clear h5; clear hg))
      go_ret
      exact ⟨rfl, hgg.trans GG⟩
    | true =>
      have hok : okx = true := by rw [HOK.out]; rfl
      have HCT := hide (HCT.out hok)
      obtain rfl := HY.out hok
      clear HN HY HOK hok
      go_upto_region 6 with (first
      | (go_at_call 41; refine (C2.out _).mono ?_; rintro e w' ⟨rfl, hg⟩; obtain ⟨x2, rfl⟩ := hg.later; clear hg)
      | (go_at_call 22; refine (C3.out _ (hgg.trans GG)).mono ?_; rintro e w' ⟨rfl, hg⟩; obtain ⟨x3, rfl⟩ := hg.later; clear hg)
      | (go_at_call 32; refine (C4.out _ (hgg.trans GG)).mono ?_; rintro e w' ⟨rfl, hg⟩; obtain ⟨x4, rfl⟩ := hg.later; clear hg)
      | (go_at_call 111; refine (C5.out _ (hgg.trans GG)).mono ?_; rintro e w' ⟨A5, c5, rfl, h5, hg⟩; obtain ⟨x5, rfl⟩ := hg.later; have H5 := hide h5; clear h5; clear hg))
      have hcs : sim = false ∨ (sim = true ∧ had = true) ∨ (sim = true ∧ had = false ∧ sho = false) ∨ (sim = true ∧ had = false ∧ sho = true ∧ lit = false) ∨ (sim = true ∧ had = false ∧ sho = true ∧ lit = true) := by
        cases sim <;> cases had <;> cases sho <;> cases lit <;> simp
      rcases hcs with rfl | ⟨rfl, rfl⟩ | ⟨rfl, rfl, rfl⟩ | ⟨rfl, rfl, rfl, rfl⟩ | ⟨rfl, rfl, rfl, rfl⟩
      all_goals go_wp2_with (first
      | (go_at_call 23; refine (C6.out _ (hgg.trans GG)).mono ?_; rintro e w' ⟨rfl, hg⟩; obtain ⟨x6, rfl⟩ := hg.later; clear hg)
      | (go_at_call 48; refine (C7.out _ (hgg.trans GG)).mono ?_; rintro e w' ⟨rfl, hg⟩; obtain ⟨x7, rfl⟩ := hg.later; clear hg)
      | (go_at_call 47; refine (C8.out _).mono ?_; rintro e w' ⟨rfl, hg⟩; obtain ⟨x8, rfl⟩ := hg.later; clear hg)
      | (go_at_call 112; refine (C9.out _ (hgg.trans GG) A5 c5 (H5.out.grows GG)).mono ?_; rintro e w' ⟨rfl, hg⟩; obtain ⟨x9, rfl⟩ := hg.later; clear hg)
      | (go_at_call 113; refine (C10.out _ (hgg.trans GG) A5 c5 (H5.out.grows GG)).mono ?_; rintro e w' ⟨A10, c10, rfl, h10, hg⟩; obtain ⟨x10, rfl⟩ := hg.later; have H10 := hide h10; clear h10; clear hg))
      iterate 4
        · go_ret
          exact ⟨rfl, hgg.trans GG⟩
      go_loopw [19] (fun i wr => ∃ k : Nat, k ≤ lv.length ∧ i = .int .i64 (k : Int) ∧ Hid (∀ j, j < k → ts (gi lv j) = true) ∧ ∃ z : Later x10.now, wr = z.now) (fun i _ => lv.length - (Go.RowKit.intOf i).toNat)
      case atStart => exact ⟨0, by omega, by go_num, fun j hj => by omega, ⟨_, Grows.refl _⟩, rfl⟩
      case round =>
        obtain ⟨k, hk, rfl, HA, z, rfl⟩ := hrel
        have hg10 : Grows w z.now := (hgg.trans (show Grows wb x10.now from GG)).trans z.grows
        by_cases hlt : k < lv.length
        · obtain ⟨b, off, rfl, hc⟩ := (H10.out.grows z.grows).intsH (by omega)
          have hc1 := hc k hlt
          clear hc
          have hltb : (decide (k < lv.length)) = true := decide_eq_true hlt
          have HD := hide (fun W g => HCT.out (gi lv k) W (hg10.trans g))
          cases hv : ts (gi lv k) with
          | false =>
            have HV := hide (show lv.all ts = false from by
              rw [← Bool.not_eq_true, List.all_eq_true]
              intro h
              have := h (gi lv k) (by unfold gi; rw [List.getD_eq_getElem?_getD, List.getElem?_eq_getElem hlt]; exact List.getElem_mem _)
              rw [hv] at this
              exact absurd this (by decide))
            simp only [hv] at HD
            clear hv
            generalize gi lv k = v at *
            generalize lv.length = ln at *
            go_wp2_with fail
            ((first | refine wp_region_gen (by kernel_rfl) (by kernel_rfl) ?_); (repeat' ((first | refine gLex_val0 rfl (by kernel_rfl) (fun K hK => ?_) | refine gLex_undef rfl rfl rfl (by kernel_rfl) (fun K hK => ?_) | (refine gLex_ask rfl rfl rfl ?_; first | (apply gAsk_yes; kernel_rfl; intro K hK) | ((first | apply gAsk_no1 | apply gAsk_no2); kernel_rfl; intro K hK) | (apply gAsk_part; kernel_rfl; all_goals (intro h K hK; (try simp only [Bool.not_true] at h); (try simp only [Bool.not_false] at h); (try simp only [decide_eq_true_eq] at h); (try simp only [decide_eq_false_iff_not] at h); try (exfalso; first | contradiction | omega))))) <;> (go_simp; (try (simp only [↓IntWalk.iteOmega]; try go_simp)); (try simp (disch := omega) only [IntWalk.i64_in]); (try simp (disch := omega) only [IntWalk.u64_in]); first | (refine hK _ ?_; clear hK K) | (apply Exists.intro; refine ⟨fun x => ?_, hK _ ?_⟩; (first | (go_at_call 114; exact HD.out _ GG)); clear hK K)))); all_goals ((apply gLex_end); intro y))
            go_wp2_with fail
            go_ret
            exact ⟨by rw [HV.out]; rfl, hg10.trans GG⟩
          | true =>
            have HV := hide hv
            simp only [hv] at HD
            clear hv
            generalize hgv : gi lv k = v at *
            have hgv := hide hgv
            go_wp2_with fail
            ((first | refine wp_region_gen (by kernel_rfl) (by kernel_rfl) ?_); (repeat' ((first | refine gLex_val0 rfl (by kernel_rfl) (fun K hK => ?_) | refine gLex_undef rfl rfl rfl (by kernel_rfl) (fun K hK => ?_) | (refine gLex_ask rfl rfl rfl ?_; first | (apply gAsk_yes; kernel_rfl; intro K hK) | ((first | apply gAsk_no1 | apply gAsk_no2); kernel_rfl; intro K hK) | (apply gAsk_part; kernel_rfl; all_goals (intro h K hK; (try simp only [Bool.not_true] at h); (try simp only [Bool.not_false] at h); (try simp only [decide_eq_true_eq] at h); (try simp only [decide_eq_false_iff_not] at h); try (exfalso; first | contradiction | omega))))) <;> (go_simp; (try (simp only [↓IntWalk.iteOmega]; try go_simp)); (try simp (disch := omega) only [IntWalk.i64_in]); (try simp (disch := omega) only [IntWalk.u64_in]); first | (refine hK _ ?_; clear hK K) | (apply Exists.intro; refine ⟨fun x => ?_, hK _ ?_⟩; (first | (go_at_call 114; exact HD.out _ GG)); clear hK K)))); all_goals ((apply gLex_end); intro y))
            go_wp2_with fail
            go_roundw
            case measure => simp [Go.RowKit.intOf]; omega
            case rel => exact ⟨k + 1, by omega, by go_num, hide (fun j hj => by
              by_cases e : j = k
              · rw [e, hgv.out]; exact HV.out
              · exact HA.out j (by omega)), ⟨_, GG⟩, rfl⟩
        · obtain rfl : k = lv.length := by omega
          have HV := hide (show lv.all ts = true from by
            rw [List.all_eq_true]
            intro v hv
            obtain ⟨j, hj, rfl⟩ := List.getElem_of_mem hv
            have := HA.out j hj
            unfold gi at this
            rwa [List.getD_eq_getElem?_getD, List.getElem?_eq_getElem hj] at this)
          go_wp2_with fail
          go_ret
          exact ⟨by rw [HV.out]; rfl, hg10.trans GG⟩
end Go.Proofs.YtgplpgldhoelcaaGreat

namespace Go.Proofs.YtgplpgldhoelcaaGreat
open Go Go.RowKit
attribute [local go_sem] Oper.semAt_some
theorem Own.build2 (w : World) (v1 v2 : Value) (B : Nat) (hB : B ≤ w.heap.size) : Own (w.alloc (.cells #[v1, v2] 53)) B 53 2 (some ⟨w.heap.size, 0, none⟩) 1 1 [v1, v2] :=
  ⟨by simp, .inr ⟨w.heap.size, 1, #[v1, v2], rfl, hB, (by show (w.heap.push _)[w.heap.size]? = _; simp), Nat.le_refl _, by unfold maxLen; omega, by simp, by simp⟩⟩
theorem RtsAt.cell {w : World} {B n c k : Nat} {A : Option Addr} {rs : List Rt} {F : Nat → List Nat × Nat} (h : RtsAt w B A c rs (pthK F n)) (hk : k < n) :
    ∃ b off Ak ck, A = some ⟨b, off, none⟩ ∧ Holds w ⟨b, off + k * 2, none⟩ (.slice Ak (F k).1.length ck) ∧ Own w 0 3 1 Ak (F k).1.length ck (nv (F k).1) := by
  have hl : rs.length = n := by
    have := h.len
    simpa [pthK] using this
  have hk' : k < rs.length := by omega
  have e : ((rs.map (fun r => (r.2.2.1, r.2.2.2)))[k]?) = (pthK F n)[k]? := by rw [h.eqs]
  rw [List.getElem?_map, List.getElem?_eq_getElem hk'] at e
  have e2 : (pthK F n)[k]? = some (F k) := by unfold pthK; rw [List.getElem?_map, List.getElem?_range hk]; rfl
  rw [e2] at e
  have e3 : ((rs[k]).2.2.1, (rs[k]).2.2.2) = F k := by simpa using e
  obtain ⟨b, off, eA, hc⟩ := h.own.rd.2 (by omega) (by omega)
  have hrow := h.rows _ (List.getElem_mem hk')
  have hcell := hc (k * 2 + 0) _ (by rw [flat_get rtC 2 (fun _ => rfl) (none, 0, [], 0) rs k 0 (by omega) (by omega)]; rfl)
  rw [List.getD_eq_getElem?_getD, List.getElem?_eq_getElem hk', Option.getD_some] at hcell
  have e4 : (F k).1 = (rs[k]).2.2.1 := by rw [← e3]
  rw [e4]
  exact ⟨b, off, rs[k].1, rs[k].2.1, eA, ⟨hcell⟩, hrow⟩
structure TrR (B : Nat) (W P : Nat → List Nat) (V : Nat → Nat) (k : Nat) (wr : World) (A8 : Option Addr) (c8 : Nat) (rs : List Rt) (Aw : Option Addr) (cw : Nat) : Prop where
  wts : Own wr 0 41 1 Aw (W k).length cw (wv (W k))
  out : RtsAt wr B A8 c8 rs (pthK (fun j => (P j, V j)) (k + 1))
  lt : B ≤ wr.heap.size
theorem TrR.app {B k c8 cl cw cw' : Nat} {W P : Nat → List Nat} {V : Nat → Nat} {y z w8 : World} {A8 Al Aw Aw' : Option Addr} {rs : List Rt} (h : TrR B W P V k y A8 c8 rs Aw cw) (hg : Grows y z) (hl : Own z 0 3 1 Al (P (k + 1)).length cl (nv (P (k + 1)))) (hw : Own z 0 41 1 Aw' (W (k + 1)).length cw' (wv (W (k + 1)))) {A9 : Option Addr} {c9 : Nat}
    (hO : Own w8 B 53 2 A9 (rs.length + 1) c9 (rs.flatMap rtC ++ [.slice Al (P (k + 1)).length cl, .int .u64 (V (k + 1) : Int)])) (ht : Touch (fun j => ∃ p, A8 = some p ∧ p.block = j) z w8) :
    TrR B W P V (k + 1) w8 A9 c9 (rs ++ [(Al, cl, P (k + 1), V (k + 1))]) Aw' cw' := by
  have ho := h.out.grows hg
  refine ⟨hw.touch ht (fun p hp ⟨q, hq, e⟩ => hw.not_own ho.own (by decide) p q hp hq e.symm), ?_, Nat.le_trans h.lt (Nat.le_trans hg.size ht.size)⟩
  rw [pthK_succ]
  exact h.out.more hg hl hO ht
set_option maxRecDepth 20000 in
set_option maxHeartbeats 16000000 in
theorem r32Tries (N s t : Int) (A : Option Addr) (c : Nat) (E : List Edg) (o : PO) (W P : Nat → List Nat) (V : Nat → Nat) (r : Int) (w : World) (h : Rd w A 3 E.length (esCells E)) (hE : E.length ≤ 1000000) (hT : TrOk N s t E o.f1 o.f2 W P V) (hr : IsPath E (freeO []) N s t (P 0) (V 0) r) (hu : U64 o.f1 ∧ U64 o.a1 ∧ U64 o.e1 ∧ U64 o.g1) :
    Calls Tryz.prog 39 #[.agg #[.int .i64 N, .slice A E.length c], .int .i64 s, .int .i64 t, poV o] w (GiveTr w (poB o) r o.r P V) := by
  have h0 : Rd w none 1 0 [] := ⟨by simp, fun h => absurd h (by simp)⟩
  have hw0 : Rd w none 1 0 (wv []) := ⟨by simp [wv], fun h => absurd h (by simp)⟩
  have C1 := hide (fun (X : World) => r32Right o hu.1 hu.2.1 hu.2.2.1 hu.2.2.2 X)
  have C2 := hide (fun (X : World) (g : Grows w X) => show Calls Tryz.prog 88 #[.agg #[.int .i64 N, .slice A E.length c], .int .i64 s, .int .i64 t, .agg #[.bool false, .slice none 0 0, .slice none 0 0, .slice none 0 0, .int .u64 0]] X fun e w' =>
      ∃ A' c', e = .returned (.tuple #[.agg #[.slice A' (P 0).length c', .int .u64 (V 0 : Int)], .int .i64 r]) ∧ Own w' X.heap.size 3 1 A' (P 0).length c' (nv (P 0)) ∧ Grows X w' from
    r15Path N s t A c E (freeO []) none none none 0 0 0 (P 0) (V 0) r X (h.grows g) (h0.grows g) (h0.grows g) (hw0.grows g) hE (show (0 : Nat) ≤ 1000000 by omega) hr)
  have C3 := hide (fun (X : World) (g : Grows w X) => show Calls Tryz.prog 89 #[.agg #[.int .i64 N, .slice A E.length c], .agg #[.bool false, .slice none 0 0, .slice none 0 0, .slice none 0 0, .int .u64 0]] X fun e w' => ∃ A' c', e = .returned (.slice A' (W 0).length c') ∧ Own w' X.heap.size 41 1 A' (W 0).length c' (wv (W 0)) ∧ Grows X w' from by
    rw [hT.w0]
    exact r14Weights N A E.length c E false (.slice none 0 0) (.slice none 0 0) none 0 0 0 [] X (h.grows g) (hw0.grows g) hE (by omega))
  have C4 := hide (fun (k : Nat) (X : World) (Aw Al : Option Addr) (cw cl : Nat) (h1 : Rd X Aw 1 (W k).length (wv (W k))) (h2 : Rd X Al 1 (P k).length (nv (P k))) => show Calls Tryz.prog 46 #[.slice Aw (W k).length cw, .slice Al (P k).length cl, .agg #[.int .u64 o.f1, .int .u64 o.f2]] X fun e w' => ∃ A' c', e = .returned (.slice A' (W (k + 1)).length c') ∧ Own w' X.heap.size 41 1 A' (W (k + 1)).length c' (wv (W (k + 1))) ∧ Grows X w' from by
    rw [hT.ws]
    exact r32Raise Aw _ cw (W k) Al _ cl (icL (P k)) o.f1 o.f2 X h1 (by have := hT.wlen k; omega) (by rw [← icL_nv]; exact h2) (by have := hT.short k; omega) (hT.wbound k) hu.1)
  have C5 := hide (fun (k : Nat) (X : World) (g : Grows w X) (Aw : Option Addr) (cw : Nat) (h1 : Rd X Aw 1 (W (k + 1)).length (wv (W (k + 1)))) => show Calls Tryz.prog 88 #[.agg #[.int .i64 N, .slice A E.length c], .int .i64 s, .int .i64 t, .agg #[.bool false, .slice none 0 0, .slice none 0 0, .slice Aw (W (k + 1)).length cw, .int .u64 0]] X fun e w' =>
      ∃ A' c' f' r', e = .returned (.tuple #[.agg #[.slice A' (P (k + 1)).length c', .int .u64 f'], .int .i64 r']) ∧ Own w' X.heap.size 3 1 A' (P (k + 1)).length c' (nv (P (k + 1))) ∧ Grows X w' from by
    obtain ⟨f', r', hp⟩ := hT.ps k
    exact (r15Path N s t A c E (freeO (W (k + 1))) none none Aw 0 0 cw (P (k + 1)) f' r' X (h.grows g) (h0.grows g) (h0.grows g) h1 hE (show (W (k + 1)).length ≤ 1000000 by have := hT.wlen (k + 1); omega) hp).mono (fun e w' hh => by
      obtain ⟨A', c', e1, e2, e3⟩ := hh
      exact ⟨A', c', (f' : Int), r', e1, e2, e3⟩))
  have C6 := hide (fun (k : Nat) (X : World) (g : Grows w X) (Al : Option Addr) (cl : Nat) (h2 : Rd X Al 1 (P (k + 1)).length (nv (P (k + 1)))) => show Calls Tryz.prog 32 #[.agg #[.int .i64 N, .slice A E.length c], .slice Al (P (k + 1)).length cl] X fun e w' => e = .returned (.tuple #[.int .u64 (V (k + 1) : Int), .bool (edgesB N E (icL (P (k + 1))))]) ∧ Grows X w' from by
    rw [hT.vs]
    exact r8Weight N A E.length c E Al _ cl (icL (P (k + 1))) X (h.grows g) hE (by rw [← icL_nv]; exact h2) (by have := hT.short (k + 1); omega))
  have hR : poB o = true → 0 ≤ o.r ∧ o.r ≤ 100 := fun hp => by
    unfold poB inB at hp
    simp only [Bool.and_eq_true, decide_eq_true_eq] at hp
    omega
  have HSH := hide (fun k => hT.short k)
  have HR := hide hR
  clear hT hr h h0 hw0 hE hR hu
  have e2_ : r ≠ 0 → ∀ e w', (e = .returned (.tuple #[.slice none 0 0, .int .i64 r]) ∧ Grows w w') → GiveTr w true r o.r P V e w' := fun h e w' hh => by unfold GiveTr; rw [if_neg (by decide), if_pos h]; exact hh
  have e3_ : r = 0 → ∀ e w', (∃ A c rs, e = .returned (.tuple #[.slice A rs.length c, .int .i64 0]) ∧ RtsAt w' w.heap.size A c rs (pthK (fun j => (P j, V j)) (o.r.toNat + 1)) ∧ Grows w w') → GiveTr w true r o.r P V e w' := fun h e w' hh => by unfold GiveTr; rw [if_neg (by decide), if_neg (by omega)]; exact hh
  have E2 := hide e2_
  have E3 := hide e3_
  clear e2_ e3_
  generalize poB o = po at *
  generalize E.length = m at *
  obtain ⟨ok_, or_, f1, f2, a1, a2, e1, e2, g1, g2⟩ := o
  unfold poV at C1 ⊢
  dsimp only at C1 C4 HR E2 E3 ⊢
  cases po with
  | false =>
    go_enter Tryz.func39, Tryz.ntmps39
    go_wp2_with (go_at_call 41; refine (C1.out _).mono ?_; rintro e w' ⟨rfl, hg⟩; obtain ⟨x1, rfl⟩ := hg.later; clear hg)
    refine bodyPost_ret (v := .tuple #[.slice none 0 0, .int .i64 1]) (by simp (maxDischargeDepth := 6) [results, Tryz.results39, go_sem, *]) rfl ?_
    show GiveTr w false _ _ _ _ _ _
    unfold GiveTr
    rw [if_pos rfl]
    exact ⟨rfl, GG⟩
  | true =>
  obtain ⟨hr1, hr2⟩ := HR.out rfl
  obtain ⟨R, rfl⟩ : ∃ R : Nat, or_ = (R : Int) := ⟨or_.toNat, by omega⟩
  clear HR
  go_enter Tryz.func39, Tryz.ntmps39
  go_upto_region 1 with fail
  obtain ⟨w0, hw0⟩ : ∃ W, W = (w.alloc (.cells #[.int .i64 N, .slice A m c] 35)).alloc (.cells #[.int .i64 ok_, .int .i64 (R : Int), .int .u64 f1, .int .u64 f2, .int .u64 a1, .int .u64 a2, .int .u64 e1, .int .u64 e2, .int .u64 g1, .int .u64 g2] 77) := ⟨_, rfl⟩
  have hg0 : Grows w w0 := by rw [hw0]; exact ((Grows.refl _).new _).new _
  have a4 : Arr w0 w.heap.size 35 [.int .i64 N, .slice A m c] := by rw [hw0]; exact (Arr.make w _ _).grow ((Grows.refl _).new _)
  have a7 : Arr w0 (w.heap.size + 1) 77 [.int .i64 ok_, .int .i64 (R : Int), .int .u64 f1, .int .u64 f2, .int .u64 a1, .int .u64 a2, .int .u64 e1, .int .u64 e2, .int .u64 g1, .int .u64 g2] := by
    rw [hw0]
    have h := Arr.make (w.alloc (.cells #[.int .i64 N, .slice A m c] 35)) [.int .i64 ok_, .int .i64 (R : Int), .int .u64 f1, .int .u64 f2, .int .u64 a1, .int .u64 a2, .int .u64 e1, .int .u64 e2, .int .u64 g1, .int .u64 g2] 77
    have e : (w.alloc (.cells #[.int .i64 N, .slice A m c] 35)).heap.size = w.heap.size + 1 := by simp
    rwa [e] at h
  rw [← hw0]
  clear hw0
  generalize w.heap.size + 1 = b7 at *
  obtain ⟨b4, hb4⟩ : ∃ b, b = w.heap.size := ⟨_, rfl⟩
  rw [← hb4] at a4 ⊢
  have hsw := hg0.size
  clear hb4
  have m6 := a7.mine 6 rfl
  have m7 := a7.mine 7 rfl
  have m8 := a7.mine 8 rfl
  have m9 := a7.mine 9 rfl
  go_upto_region 4 with (first
    | (go_at_call 41; refine (C1.out _).mono ?_; rintro e w' ⟨rfl, hg⟩; obtain ⟨x1, rfl⟩ := hg.later; clear hg)
    | (go_at_call 88; refine (C2.out _ (hg0.trans GG)).mono ?_; rintro e w' ⟨A1, c1, rfl, ho, hg⟩; obtain ⟨x2, rfl⟩ := hg.later; have HO := hide ho; clear hg ho))
  obtain ⟨wb, hwb⟩ : ∃ W, W = x2.now.alloc (.cells #[.slice A1 (P 0).length c1, .int .u64 (V 0 : Int)] 53) := ⟨_, rfl⟩
  have g2b : Grows x2.now wb := by rw [hwb]; exact (Grows.refl _).new _
  have hg2 : Grows w0 x2.now := GG
  have hgb : Grows w0 wb := hg2.trans g2b
  have a10 : Arr wb x2.now.heap.size 53 [.slice A1 (P 0).length c1, .int .u64 (V 0 : Int)] := by rw [hwb]; exact Arr.make _ _ _
  have hO1 : Own wb 0 3 1 A1 (P 0).length c1 (nv (P 0)) := (HO.out.base (Nat.zero_le _)).grows g2b
  have hb1 : x2.now.heap.size < wb.heap.size := by rw [hwb]; simp
  have hb2 : w0.heap.size ≤ x2.now.heap.size := hg2.size
  rw [← hwb]
  clear hwb HO C2
  generalize x2.now.heap.size = b10 at *
  clear g2b hg2 x2
  have kb0 := a10.mine 0 rfl
  have kb1 := a10.mine 1 rfl
  obtain ⟨xb, rfl⟩ := hgb.later
  by_cases hr : r = 0
  rotate_left
  · have hrb : (r != 0) = true := by simpa using hr
    go_wp2_with fail
    refine bodyPost_ret (v := .tuple #[.slice none 0 0, .int .i64 r]) (by simp (maxDischargeDepth := 6) [results, Tryz.results39, go_sem, *]) rfl ?_
    exact E2.out hr _ _ ⟨rfl, hg0.trans GG⟩
  · subst hr
    have HO1 := hide hO1
    clear hO1
    go_upto_region 8 with (go_at_call 89; refine (C3.out _ (hg0.trans GG)).mono ?_; rintro e w' ⟨A2, c2, rfl, ho, hg⟩; obtain ⟨x3, rfl⟩ := hg.later; have HW := hide ho; clear hg ho)
    have hsz : xb.now.heap.size ≤ x3.now.heap.size := (show Grows xb.now x3.now from GG).size
    have HTR := hide (show TrR xb.now.heap.size W P V 0 x3.now (some ⟨xb.now.heap.size, 0, none⟩) 1 [(A1, c1, P 0, V 0)] A2 c2 from ⟨(HW.out.base (Nat.zero_le _)), ⟨(Own.build2 xb.now _ _ _ (Nat.le_refl _)).grows x3.grows, fun q hq => by
      rw [List.mem_singleton.1 hq]
      exact HO1.out.grows (show Grows xb.now x3.now from GG), rfl⟩, hsz⟩)
    have hg5 : Grows w0 x3.now := GG
    clear a10 kb0 kb1 HO1 HW C1 C3 hsz hb1
    have hB0 : w0.heap.size ≤ xb.now.heap.size := xb.grows.size
    generalize xb.now.heap.size = B at *
    generalize x3.now = w5 at *
    obtain ⟨y5, rfl⟩ := hg5.later
    go_wp2_with fail
    go_loopw [12, 13, 14] (fun out wt tk wr => ∃ (k : Nat) (A8 : Option Addr) (c8 : Nat) (rs : List Rt) (Aw : Option Addr) (cw : Nat), k ≤ R ∧ tk = .int .i64 (k : Int) ∧ out = .slice A8 rs.length c8 ∧ wt = .slice Aw (W k).length cw ∧ ∃ y : Later w0, wr = y.now ∧ TrR B W P V k y.now A8 c8 rs Aw cw) (fun _ _ tk _ => R - (Go.RowKit.intOf tk).toNat)
    case atStart => exact ⟨0, _, _, _, A2, c2, Nat.zero_le _, by go_num, rfl, rfl, y5, rfl, HTR.out⟩
    case round =>
      clear HTR hg5
      obtain ⟨k, A8, c8, rs, Aw, cw, hk, rfl, rfl, rfl, y, rfl, hI⟩ := hrel
      have hlen : rs.length = k + 1 := by
        have := hI.out.len
        simpa [pthK] using this
      have HI := hide hI
      clear hI
      by_cases hlt : k < R
      · have hltb : (decide (k < R)) = true := decide_eq_true hlt
        have hlen2 : rs.length ≤ 1000000 := by omega
        have hkl : k < rs.length := by omega
        clear hlen
        obtain ⟨bq, off, Ak, ck, rfl, hcell, hrow⟩ := HI.out.out.cell (k := k) (by omega)
        have HROW := hide hrow
        clear hrow
        dsimp only at hcell HROW
        go_upto_region 11 with fail
        (refine wp_region_tail1 9 (by kernel_rfl) (by kernel_rfl) ?_; simp only [List.take_succ_cons, List.take_zero, List.drop_succ_cons, List.drop_zero]; (repeat' ((first | refine gLex_val0 rfl (by kernel_rfl) (fun K hK => ?_) | refine gLex_undef rfl rfl rfl (by kernel_rfl) (fun K hK => ?_) | (refine gLex_ask rfl rfl rfl ?_; first | (apply gAsk_yes; kernel_rfl; intro K hK) | ((first | apply gAsk_no1 | apply gAsk_no2); kernel_rfl; intro K hK))) <;> (go_simp; (try (simp only [↓IntWalk.iteOmega]; try go_simp)); (try simp (disch := omega) only [IntWalk.i64_in]); (try simp (disch := omega) only [IntWalk.u64_in]); refine hK _ ?_; clear hK K))))
        refine gLex_prop rfl (by kernel_rfl) rfl (by simp) (WtP 0 (W (k + 1))) (WtP.lasts _ _) (fun x => by
          go_simp
          refine (C4.out k _ Aw Ak cw ck ((HI.out.wts.grows GG).rd) ((HROW.out.grows GG).rd)).mono ?_
          rintro e w' ⟨A2, c2, rfl, ho, hg⟩
          exact ⟨_, rfl, hg, A2, c2, rfl, ho.base (Nat.zero_le _)⟩) ?_
        (repeat' ((first | refine gLex_val0 rfl (by kernel_rfl) (fun K hK => ?_) | refine gLex_undef rfl rfl rfl (by kernel_rfl) (fun K hK => ?_) | (refine gLex_ask rfl rfl rfl ?_; first | (apply gAsk_yes; kernel_rfl; intro K hK) | ((first | apply gAsk_no1 | apply gAsk_no2); kernel_rfl; intro K hK))) <;> (go_simp; (try (simp only [↓IntWalk.iteOmega]; try go_simp)); (try simp (disch := omega) only [IntWalk.i64_in]); (try simp (disch := omega) only [IntWalk.u64_in]); refine hK _ ?_; clear hK K)))
        refine gLex_endT1 (by simp) (fun x v hv => ?_)
        obtain ⟨A2, c2, rfl, hw2⟩ := hv
        have HW2 := hide hw2
        clear hw2
        simp only [Act.put, List.setIfInBounds_toArray, List.set_cons_zero, List.set_cons_succ]
        go_wp2_with (first
          | (go_at_call 88; refine (C5.out k _ (hg0.trans GG) A2 c2 ((HW2.out.grows GG).rd)).mono ?_; rintro e w' ⟨A3, c3, f3, r3, rfl, ho, hg⟩; obtain ⟨z2, rfl⟩ := hg.later; have HL2 := hide ho; clear hg ho)
          | (go_at_call 32; refine (C6.out k _ (hg0.trans GG) A3 c3 ((HL2.out.grows GG).rd)).mono ?_; rintro e w' ⟨rfl, hg⟩; obtain ⟨z7, rfl⟩ := hg.later; clear hg)
          | (at_builtin; refine wp_appT elemRoute rfl _ _ rfl B (Nat.le_trans HI.out.lt (show Grows y.now _ from GG).size) rs.length c8 _ _ rfl (HI.out.out.own.grows (show Grows y.now _ from GG)) _ _ [.slice A3 (P (k + 1)).length c3, .int .u64 (V (k + 1) : Int)] rfl rfl (fun j u hu => by
              match j, hu with
              | 0, hu => simp at hu; subst hu; simp [go_sem]
              | 1, hu => simp at hu; subst hu; simp [go_sem]) (fun u hu => by simp at hu; rcases hu with rfl | rfl <;> rfl) (by omega) ?_; intro A9 c9 w8 hown8 ht8 hn8; have HT8 := hide (HI.out.app (show Grows y.now _ from GG) ((HL2.out.base (Nat.zero_le _)).grows GG) (HW2.out.grows GG) hown8 ht8); have hg8 := ht8.later (show Grows w0 _ from GG) (fun j hj => by obtain ⟨p, hp, e⟩ := hj; have := (HI.out.out.own.ty p hp).1; omega); obtain ⟨y8, rfl⟩ := hg8.later; clear hown8 ht8 hn8 hg8))
        go_roundw
        case measure => simp [Go.RowKit.intOf]; omega
        case rel => exact ⟨k + 1, A9, c9, _, A2, c2, by omega, by go_num, by rw [List.length_append, List.length_singleton], rfl, y8, rfl, HT8.out⟩
      · obtain rfl : k = R := by omega
        go_wp2_with fail
        refine bodyPost_ret (v := .tuple #[.slice A8 rs.length c8, .int .i64 0]) (by simp (maxDischargeDepth := 6) [results, Tryz.results39, go_sem, *]) rfl ?_
        exact E3.out trivial _ _ ⟨A8, c8, rs, rfl, ⟨HI.out.out.own.base (by omega), HI.out.out.rows, by rw [Int.toNat_natCast]; exact HI.out.out.eqs⟩, hg0.trans GG⟩
end Go.Proofs.YtgplpgldhoelcaaGreat

namespace Go.Proofs.YtgplpgldhoelcaaGreat
open Go Go.RowKit
theorem gh_xs (H : List HR) (k : Nat) : (gh H k).xs = (H.map (·.xs)).getD k [] := by
  unfold gh
  rw [List.getD_eq_getElem?_getD, List.getD_eq_getElem?_getD, List.getElem?_map]
  cases H[k]? <;> rfl
theorem gr_xs (H : List HR) (k : Nat) : (gr (hRows H) k).xs = (H.map (·.xs)).getD k [] := by
  unfold gr hRows
  rw [List.getD_eq_getElem?_getD, List.getD_eq_getElem?_getD, List.getElem?_map, List.getElem?_map]
  cases H[k]? <;> rfl
theorem hRows_len (H : List HR) : (hRows H).length = (H.map (·.xs)).length := by simp [hRows]
theorem withK_xs {H H' : List HR} (h : H.map (·.xs) = H'.map (·.xs)) (N : Int) (E : List Edg) (l : List Int) : ∀ k, withK N E l (hRows H) k = withK N E l (hRows H') k
  | 0 => rfl
  | k + 1 => by rw [withK_succ, withK_succ, withK_xs h N E l k, gr_xs, gr_xs, h]
theorem lvK_xs {H H' : List HR} (h : H.map (·.xs) = H'.map (·.xs)) (l : List Int) : ∀ k, lvK l (hRows H) k = lvK l (hRows H') k
  | 0 => rfl
  | k + 1 => by
    have e : lvB l (hRows H) k = lvB l (hRows H') k := by
      unfold lvB
      rw [hRows_len, hRows_len, h]
      congr 1
      funext j
      rw [gr_xs, gr_xs, h]
    rw [lvK_succ, lvK_succ, e, lvK_xs h l k]
theorem hadB_xs {H H' : List HR} (h : H.map (·.xs) = H'.map (·.xs)) (l : List Int) : hadB H l = hadB H' l := by
  have hl : H.length = H'.length := by have := congrArg List.length h; simpa using this
  unfold hadB
  refine decide_eq_decide.2 ?_
  rw [hl]
  constructor
  · rintro ⟨k, hk, e⟩
    exact ⟨k, hk, by rw [gh_xs, ← h, ← gh_xs]; exact e⟩
  · rintro ⟨k, hk, e⟩
    exact ⟨k, hk, by rw [gh_xs, h, ← gh_xs]; exact e⟩
theorem whyV_xs {H H' : List HR} (h : H.map (·.xs) = H'.map (·.xs)) (N s t : Int) (E : List Edg) (l : List Int) (o : PO) (f : Nat) (r : Int) (ts : Int → Bool) : whyV N s t E l H o f r ts = whyV N s t E l H' o f r ts := by
  have e1 : littleB N E l (hRows H) o.g1 o.g2 (f : Int) = littleB N E l (hRows H') o.g1 o.g2 (f : Int) := by
    unfold littleB
    rw [hRows_len, hRows_len, h, withK_xs h]
  unfold whyV
  rw [hadB_xs h, e1, lvK_xs h]
def hrX (x : List Int) : HR := ⟨none, x.length, x.length, x, 0⟩
def whyX (N s t : Int) (E : List Edg) (l : List Int) (xss : List (List Int)) (o : PO) (f : Nat) (r : Int) (ts : Int → Bool) : Int := whyV N s t E l (xss.map hrX) o f r ts
theorem whyX_of {H : List HR} {xss : List (List Int)} (h : H.map (·.xs) = xss) (N s t : Int) (E : List Edg) (l : List Int) (o : PO) (f : Nat) (r : Int) (ts : Int → Bool) : whyV N s t E l H o f r ts = whyX N s t E l xss o f r ts :=
  whyV_xs (by rw [h, List.map_map]; exact (List.map_id xss).symm) N s t E l o f r ts
def keepW (why : Nat → List Nat → Int) (K : Nat) : Nat → List Nat
  | 0 => []
  | k + 1 => if (keepW why K k).length < K ∧ (k = 0 ∨ why k (keepW why K k) = 0) then keepW why K k ++ [k] else keepW why K k
theorem keepW_yes {why : Nat → List Nat → Int} {K k : Nat} (h1 : (keepW why K k).length < K) (h2 : k = 0 ∨ why k (keepW why K k) = 0) : keepW why K (k + 1) = keepW why K k ++ [k] := by
  rw [keepW, if_pos ⟨h1, h2⟩]
theorem keepW_no {why : Nat → List Nat → Int} {K k : Nat} (h : ¬ ((keepW why K k).length < K ∧ (k = 0 ∨ why k (keepW why K k) = 0))) : keepW why K (k + 1) = keepW why K k := by
  rw [keepW, if_neg h]
theorem keepW_full {why : Nat → List Nat → Int} {K k : Nat} (h : (keepW why K k).length = K) (j : Nat) : keepW why K (k + j) = keepW why K k := by
  induction j with
  | zero => rfl
  | succ j ih => rw [← Nat.add_assoc, keepW_no (fun e => by rw [ih, h] at e; omega), ih]
theorem keepW_le (why : Nat → List Nat → Int) (K : Nat) : ∀ k, (keepW why K k).length ≤ K ∧ ∀ j ∈ keepW why K k, j < k
  | 0 => ⟨Nat.zero_le _, fun j hj => by cases hj⟩
  | k + 1 => by
    obtain ⟨h1, h2⟩ := keepW_le why K k
    by_cases h : (keepW why K k).length < K ∧ (k = 0 ∨ why k (keepW why K k) = 0)
    · rw [keepW_yes h.1 h.2, List.length_append, List.length_singleton]
      refine ⟨h.1, fun j hj => ?_⟩
      rcases List.mem_append.1 hj with hj | hj
      · have := h2 j hj; omega
      · rw [List.mem_singleton.1 hj]; omega
    · rw [keepW_no h]
      exact ⟨h1, fun j hj => by have := h2 j hj; omega⟩
theorem keepW_len (why : Nat → List Nat → Int) (K : Nat) : ∀ k, (keepW why K k).length ≤ k
  | 0 => Nat.le_refl _
  | k + 1 => by
    have h1 := keepW_len why K k
    by_cases h : (keepW why K k).length < K ∧ (k = 0 ∨ why k (keepW why K k) = 0)
    · rw [keepW_yes h.1 h.2, List.length_append, List.length_singleton]; omega
    · rw [keepW_no h]; omega
theorem IsPath.below {E : List Edg} {o : DOpt} {N s t : Int} {l : List Nat} {f : Nat} {r : Int} (hp : IsPath E o N s t l f r) (hN : 0 ≤ N) : (l.length : Int) ≤ N := by
  by_cases hr : r = 0
  · obtain ⟨NN, sN, tN, ys, hN, hs, ht, hok, hff, hfar, hnear, hfol⟩ := hp.waysU hr
    have hsm : l.length < NN := hfol.short hnear hok.node
    omega
  · rw [(hp.zeroU hr).1]
    exact hN
theorem IsPath.nodes {E : List Edg} {o : DOpt} {N s t : Int} {l : List Nat} {f : Nat} (hp : IsPath E o N s t l f 0) : 1 ≤ N := by
  obtain ⟨NN, sN, tN, ys, hN, hs, ht, hok, hff, hfar, hnear, hfol⟩ := hp.waysU rfl
  have hsm : l.length < NN := hfol.short hnear hok.node
  omega
end Go.Proofs.YtgplpgldhoelcaaGreat

namespace Go.Proofs.YtgplpgldhoelcaaGreat
open Go Go.RowKit
structure WayIn (W : World) (B : Option Addr) (d : Nat) (l : List Int) (A4 : Option Addr) (H : List HR) : Prop where
  l_ : Rd W B 1 l.length (l.map (.int .i64))
  ll : l.length ≤ 1000
  ld : l.length ≤ d
  li : ∀ j, j < l.length → I64 (gi l j)
  had : HadAt W A4 H.length H
  hl : H.length ≤ 100000
  hi : ∀ x ∈ H, x.n ≤ 1000 ∧ ∀ j, j < x.n → I64 (gi x.xs j)
theorem why_two (N s t : Int) (A : Option Addr) (c : Nat) (E : List Edg) (o : PO) (p : List Nat) (f : Nat) (r : Int) (w : World) (h : Rd w A 3 E.length (esCells E)) (hE : E.length ≤ 1000000) (hp : IsPath E (freeO []) N s t p f r) (hf : f < 18446744073709551616)
    (u1 : U64 o.f1) (u2 : U64 o.a1) (u3 : U64 o.e1) (u4 : U64 o.g1) (u5 : U64 o.a2) :
    ∃ ts : List Int → Int → Bool, ∀ (W : World), Grows w W → ∀ (B : Option Addr) (d : Nat) (l : List Int) (A4 : Option Addr) (c4 : Nat) (H : List HR), WayIn W B d l A4 H →
      (Calls Tryz.prog 42 #[.agg #[.int .i64 N, .slice A E.length c], .int .i64 s, .int .i64 t, .slice B l.length d, .slice A4 H.length c4, poV o] W fun e w' => e = .returned (.int .i64 (whyV N s t E l H o f r (ts l))) ∧ Grows W w') ∧
      (Calls Tryz.prog 43 #[.agg #[.int .i64 N, .slice A E.length c], .int .i64 s, .int .i64 t, .slice B l.length d, .slice A4 H.length c4, poV o] W fun e w' => e = .returned (.int .i64 (whyV N s t E l H o f r (ts l))) ∧ Grows W w') := by
  have hin : ∀ (ts : Int → Bool) (W : World), Grows w W → ∀ (B : Option Addr) (d : Nat) (l : List Int) (A4 : Option Addr) (H : List HR), WayIn W B d l A4 H → WhyIn N s t A c E B d l A4 H o p f r ts W := fun ts W g B d l A4 H k =>
    ⟨h.grows g, hE, k.l_, k.ll, k.li, k.had, k.hl, k.hi, hp, hf, u1, u2, u3, u4, u5⟩
  by_cases hr : rightF N E = 0
  · obtain ⟨NN, rfl⟩ : ∃ NN : Nat, N = NN := ⟨N.toNat, by have := right_in hr; omega⟩
    obtain ⟨F, T, hM⟩ := mks_any hr
    refine ⟨fun l z => tsB (NN : Int) E F s l z o.a1 o.a2 (f : Int), fun W g B d l A4 c4 H k => ?_⟩
    have hk := hin (fun z => tsB (NN : Int) E F s l z o.a1 o.a2 (f : Int)) W g B d l A4 H k
    have his : okW (NN : Int) s t E l o r = true → isB (NN : Int) E s l = true := fun e => by
      unfold okW at e
      simp only [Bool.and_eq_true] at e
      exact e.2.2.1
    refine ⟨?_, r32Why (NN : Int) s t A c E B d l A4 c4 H o p f r _ W hk k.ld (fun e z W' g' => ?_)⟩
    · cases e : okW (NN : Int) s t E l o r with
      | false =>
        rw [whyV_no e]
        exact penWhyNo (NN : Int) s t A c E B d l A4 c4 H o p f r _ W hk e
      | true =>
        exact penWhyOk (NN : Int) s t A c E B d l A4 c4 H o p f r _ W hk e (fun z W' g' => loTest NN A c E F T hM s B d l z o.a1 o.a2 f W' (h.grows (g.trans g')) (k.l_.grows g') k.ll hE (his e) ⟨by omega, by omega⟩)
    · exact r27Test NN A c E F T hM s B d l z o.a1 o.a2 f W' (h.grows (g.trans g')) (k.l_.grows g') k.ll hE (his e) u2 u5 ⟨by omega, by omega⟩
  · have hno : ∀ l, okW N s t E l o r = false := fun l => by
      cases e : okW N s t E l o r with
      | false => rfl
      | true =>
        unfold okW at e
        simp only [Bool.and_eq_true] at e
        exact absurd (isB_right e.2.2.1).1 hr
    refine ⟨fun _ _ => false, fun W g B d l A4 c4 H k => ?_⟩
    have hk := hin (fun _ => false) W g B d l A4 H k
    refine ⟨?_, r32Why N s t A c E B d l A4 c4 H o p f r _ W hk k.ld (fun e z W' g' => absurd e (by rw [hno l]; decide))⟩
    rw [whyV_no (hno l)]
    exact penWhyNo N s t A c E B d l A4 c4 H o p f r _ W hk (hno l)
end Go.Proofs.YtgplpgldhoelcaaGreat

namespace Go.Proofs.YtgplpgldhoelcaaGreat
open Go Go.RowKit
def rtH (r : Rt) : HR := ⟨r.1, r.2.2.1.length, r.2.1, icL r.2.2.1, r.2.2.2⟩
theorem rtH_cells (rs : List Rt) : (rs.map rtH).flatMap hrC = rs.flatMap rtC := by rw [List.flatMap_map]; rfl
theorem RtsAt.had {w : World} {B c : Nat} {A : Option Addr} {rs : List Rt} {ps : List (List Nat × Nat)} (h : RtsAt w B A c rs ps) : HadAt w A (rs.map rtH).length (rs.map rtH) ∧ (rs.map rtH).map (·.xs) = ps.map (fun p => icL p.1) := by
  refine ⟨⟨?_, fun x hx => ?_⟩, ?_⟩
  · rw [rtH_cells, List.length_map]
    exact h.own.rd
  · obtain ⟨r, hr, rfl⟩ := List.mem_map.1 hx
    have ho := h.rows r hr
    exact ⟨by show Rd w r.1 1 r.2.2.1.length ((icL r.2.2.1).map (.int .i64)); rw [← icL_nv]; exact ho.rd, ho.cap⟩
  · rw [← h.eqs, List.map_map, List.map_map]
    rfl
theorem icL_i64 {l : List Nat} {m : Nat} (h : ∀ i ∈ l, i < m) (hm : m ≤ 1000000) (j : Nat) (hj : j < l.length) : I64 (gi (icL l) j) := by
  have e : gi (icL l) j = ((l[j] : Nat) : Int) := by simp [gi, icL, hj]
  have := h _ (List.getElem_mem hj)
  rw [e]
  exact ⟨by omega, by omega⟩
theorem IsPath.edgeLt {E : List Edg} {o : DOpt} {N s t : Int} {l : List Nat} {f : Nat} {r : Int} (h : IsPath E o N s t l f r) : ∀ i ∈ l, i < E.length := by
  cases h with
  | bad => intro i hi; cases hi
  | noNode => intro i hi; cases hi
  | noPath => intro i hi; cases hi
  | way NN sN tN xs l hN hs ht hok hf hn hl => exact hl.edges
theorem TrOk.edges {N s t : Int} {E : List Edg} {f1 f2 : Int} {W P : Nat → List Nat} {V : Nat → Nat} (h : TrOk N s t E f1 f2 W P V) (k : Nat) : ∀ i ∈ P k, i < E.length := by
  cases k with
  | zero =>
    obtain ⟨r, hp⟩ := h.p0
    exact hp.edgeLt
  | succ k =>
    obtain ⟨f, r, hp⟩ := h.ps k
    exact hp.edgeLt
theorem IsPath.belowA {E : List Edg} {o : DOpt} {N s t : Int} {l : List Nat} {f : Nat} {r : Int} (hp : IsPath E o N s t l f r) (hN : N ≤ 1000 ∨ 4096 < N) : l.length ≤ 1000 := by
  by_cases hr : r = 0
  · obtain ⟨NN, sN, tN, ys, hN', hs, ht, hok, hff, hfar, hnear, hfol⟩ := hp.waysU hr
    have hsm : l.length < NN := hfol.short hnear hok.node
    have h := hok.dcs
    unfold dcF at h
    split at h
    · cases h
    rename_i h1
    have h2 : rightF (NN : Int) E = 0 := by omega
    have := (right_in h2).2.1
    omega
  · rw [(hp.zeroU hr).1]
    exact Nat.zero_le _
theorem TrOk.below {N s t : Int} {E : List Edg} {f1 f2 : Int} {W P : Nat → List Nat} {V : Nat → Nat} (h : TrOk N s t E f1 f2 W P V) (hN : N ≤ 1000 ∨ 4096 < N) (k : Nat) : (P k).length ≤ 1000 := by
  cases k with
  | zero =>
    obtain ⟨r, hp⟩ := h.p0
    exact hp.belowA hN
  | succ k =>
    obtain ⟨f, r, hp⟩ := h.ps k
    exact hp.belowA hN
theorem RtsAt.wayIn {w : World} {B c : Nat} {A : Option Addr} {rs : List Rt} {N s t : Int} {E : List Edg} {f1 f2 : Int} {W P : Nat → List Nat} {V : Nat → Nat} {q : List Nat} (hT : TrOk N s t E f1 f2 W P V) (hN : N ≤ 1000 ∨ 4096 < N) (hE : E.length ≤ 1000000) (hq : q.length ≤ 100000) (h : RtsAt w B A c rs (q.map fun j => (P j, V j)))
    {k cl : Nat} {Al : Option Addr} (ho : Own w 0 3 1 Al (P k).length cl (nv (P k))) : WayIn w Al cl (icL (P k)) A (rs.map rtH) ∧ (rs.map rtH).map (·.xs) = q.map (fun j => icL (P j)) := by
  obtain ⟨h1, h2⟩ := h.had
  have h3 : (rs.map rtH).map (·.xs) = q.map (fun j => icL (P j)) := by rw [h2, List.map_map]; rfl
  have hln : (rs.map rtH).length = q.length := by have := congrArg List.length h3; simpa using this
  refine ⟨⟨?_, ?_, ?_, fun j hj => ?_, h1, by omega, fun x hx => ?_⟩, h3⟩
  · rw [icL_len, ← icL_nv]; exact ho.rd
  · rw [icL_len]; exact hT.below hN k
  · rw [icL_len]; exact ho.cap
  · exact icL_i64 (hT.edges k) hE j (by rw [icL_len] at hj; exact hj)
  · obtain ⟨r, hr, rfl⟩ := List.mem_map.1 hx
    have hm : (r.2.2.1, r.2.2.2) ∈ q.map (fun j => (P j, V j)) := by rw [← h.eqs]; exact List.mem_map.2 ⟨r, hr, rfl⟩
    obtain ⟨j, hj, e⟩ := List.mem_map.1 hm
    have e1 : r.2.2.1 = P j := by injection e with e _; exact e.symm
    show r.2.2.1.length ≤ 1000 ∧ ∀ j, j < r.2.2.1.length → I64 (gi (icL r.2.2.1) j)
    rw [e1]
    exact ⟨hT.below hN j, fun i hi => icL_i64 (hT.edges j) hE i hi⟩
end Go.Proofs.YtgplpgldhoelcaaGreat

