/- Contracts: a heap in memory; an item laid, less, from a place up. -/
import Derived.Deep.DeepCutAuto
import Derived.Lib.SliceRun
import Derived.Test.YtkfobolbilhjbaaGreatQFlowRounds00
import Derived.Test.YtkfobolbilhjbaaGreatQFlowRounds01
import Derived.Test.YtkfobolbilhjbaaGreatQFlowRounds03
namespace Go.Proofs.YtkfobolbilhjbaaGreat
open Go Go.RowKit
def itCells (p : Itm) : List Value := [.int .i64 (p.1 : Int), .int .u64 (p.2 : Int)]
def its (L : List Itm) : List Value := L.flatMap itCells
def itVal (p : Itm) : Value := .agg #[.int .i64 (p.1 : Int), .int .u64 (p.2 : Int)]
theorem its_len (L : List Itm) : (its L).length = L.length * 2 := flat_len itCells 2 (fun _ => rfl) L
theorem its_at (L : List Itm) (i j : Nat) (hi : i < L.length) (hj : j < 2) : (its L)[i * 2 + j]? = (itCells (gi2 L i))[j]? := flat_get itCells 2 (fun _ => rfl) (0, 0) L i j hi hj
theorem its_app (L : List Itm) (p : Itm) : its (L ++ [p]) = its L ++ itCells p := by simp [its]
theorem its_set (L : List Itm) (i : Nat) (p : Itm) (hi : i < L.length) : ((its L).set (i * 2) (.int .i64 (p.1 : Int))).set (i * 2 + 1) (.int .u64 (p.2 : Int)) = its (L.set i p) := by
  apply List.ext_getElem?
  intro k
  have hk : k = k / 2 * 2 + k % 2 := (Nat.div_add_mod' k 2).symm
  have hm : k % 2 < 2 := Nat.mod_lt _ (by omega)
  have hl := its_len L
  have hl2 := its_len (L.set i p)
  rw [List.length_set] at hl2
  rcases Nat.lt_or_ge (k / 2) L.length with hlt | hge
  · have h1 := its_at L (k / 2) (k % 2) hlt hm
    have h2 := its_at (L.set i p) (k / 2) (k % 2) (by simpa using hlt) hm
    rw [← hk] at h1 h2
    rw [h2, gi2_set _ _ _ _ hi]
    by_cases he : k / 2 = i
    · rw [if_pos he]
      rcases (by omega : k = i * 2 ∨ k = i * 2 + 1) with e | e
      · have e2 : k % 2 = 0 := by omega
        rw [List.getElem?_set_ne (by omega), e, List.getElem?_set_self (by omega)]
        rw [e] at e2
        rw [e2]; rfl
      · have e2 : k % 2 = 1 := by omega
        rw [e, List.getElem?_set_self (by simp; omega)]
        rw [e] at e2
        rw [e2]; rfl
    · rw [if_neg he, List.getElem?_set_ne (by omega), List.getElem?_set_ne (by omega), h1]
  · rw [List.getElem?_eq_none (by simp; omega), List.getElem?_eq_none (by omega)]
def HpAt (w : World) (S : Nat → Prop) (b : Nat) (s : HS) : Prop :=
  ∃ A c G, Arr w b 153 [.slice A s.L.length c, .slice (some ⟨G, 0, none⟩) s.T.length s.T.length] ∧ Own w 0 164 2 A s.L.length c (its s.L) ∧ Row1 w G 3 1 s.T.length s.T.length (s.T.map (.int .i64)) ∧ S b ∧ S G ∧ ∀ p, A = some p → S p.block
theorem Own.touch {w w' : World} {B n c size : Nat} {e : TypeId} {A : Option Addr} {xs : List Value} {S : Nat → Prop} (h : Own w B e size A n c xs) (ht : Touch S w w') (hs : ∀ p, A = some p → ¬ S p.block) : Own w' B e size A n c xs := by
  refine ⟨h.1, ?_⟩
  rcases h.2 with h1 | ⟨g, cap, cur, h1, h2, h3, h4⟩
  · exact .inl h1
  · refine .inr ⟨g, cap, cur, h1, h2, ht.at (hs ⟨g, 0, none⟩ ?_) h3, h4⟩
    injection h1
theorem HpAt.touch {w w' : World} {S S' : Nat → Prop} {b : Nat} {s : HS} (h : HpAt w S b s) (ht : Touch S' w w') (hs : ∀ k, S k → ¬ S' k) : HpAt w' S b s := by
  obtain ⟨A, c, G, h1, h2, h3, h4, h5, h6⟩ := h
  exact ⟨A, c, G, h1.touch ht (hs _ h4), h2.touch ht (fun p hp => hs _ (h6 p hp)), h3.touch ht (hs _ h5), h4, h5, h6⟩
theorem HpAt.grow {w w' : World} {S : Nat → Prop} {b : Nat} {s : HS} (h : HpAt w S b s) (hg : Grows w w') : HpAt w' S b s := h.touch (hg.touch (fun _ => False)) (fun _ _ => id)
theorem HpAt.mono {w : World} {S S' : Nat → Prop} {b : Nat} {s : HS} (h : HpAt w S b s) (hs : ∀ k, S k → S' k) : HpAt w S' b s := by
  obtain ⟨A, c, G, h1, h2, h3, h4, h5, h6⟩ := h
  exact ⟨A, c, G, h1, h2, h3, hs _ h4, hs _ h5, fun p hp => hs _ (h6 p hp)⟩
theorem Own.item {w : World} {B n c : Nat} {e : TypeId} {A : Option Addr} {L : List Itm} (h : Own w B e 2 A n c (its L)) {i : Nat} (hi : i < n) :
    ∃ g, A = some ⟨g, 0, none⟩ ∧ Mine w ⟨g, i * 2, none⟩ (.int .i64 ((gi2 L i).1 : Int)) ∧ Mine w ⟨g, i * 2 + 1, none⟩ (.int .u64 ((gi2 L i).2 : Int)) := by
  have hl := h.len
  rw [its_len] at hl
  obtain ⟨g, cur, rfl, _⟩ := h.at_ (by omega)
  have hr := (Own.row h).1
  refine ⟨g, rfl, hr.mine ?_, hr.mine ?_⟩
  · have := its_at L i 0 (by omega) (by omega)
    rw [Nat.add_zero] at this
    rw [this]; rfl
  · rw [its_at L i 1 (by omega) (by omega)]; rfl
set_option maxHeartbeats 1000000 in
theorem hpLess (x y : Itm) (w : World) : Calls Tryz.prog 103 #[itVal x, itVal y] w fun e w' => e = .returned (.bool (ahead x y)) ∧ Grows w w' := by
  obtain ⟨a, k⟩ := x
  obtain ⟨c, l⟩ := y
  unfold itVal
  dsimp only
  rcases Nat.lt_trichotomy k l with h | h | h
  · have HA : ahead (a, k) (c, l) = true := decide_eq_true (.inl h)
    rw [HA]
    have d1 : decide ((k : Int) < (l : Int)) = true := decide_eq_true (by omega)
    have d2 : decide (k < l) = true := decide_eq_true h
    clear h HA
    go_enter Tryz.func103, Tryz.ntmps103
    go_wp2
    go_ret
    exact ⟨rfl, GG⟩
  · subst h
    have HA : ahead (a, k) (c, k) = decide (a < c) := by simp [ahead]
    rw [HA]
    have HD : Hid (decide ((a : Int) < (c : Int)) = decide (a < c)) := by simp [Hid]
    clear HA
    go_enter Tryz.func103, Tryz.ntmps103
    go_wp2
    all_goals go_ret
    all_goals refine ⟨?_, GG⟩
    all_goals first | rfl | simp [HD.out]
  · have HA : ahead (a, k) (c, l) = false := decide_eq_false (by dsimp only; omega)
    rw [HA]
    have d1 : decide ((k : Int) < (l : Int)) = false := decide_eq_false (by omega)
    have d2 : decide (k < l) = false := decide_eq_false (by omega)
    have d3 : ((k : Int) == (l : Int)) = false := beq_eq_false_iff_ne.2 (by omega)
    have d4 : (k == l) = false := beq_eq_false_iff_ne.2 (by omega)
    have d5 : ¬ k = l := by omega
    clear h HA
    go_enter Tryz.func103, Tryz.ntmps103
    go_wp2
    go_ret
    exact ⟨rfl, GG⟩
theorem HpAt.lay {w W : World} {b g c G : Nat} {s : HS} (i : Nat) (x : Itm) (h1 : Arr w b 153 [.slice (some ⟨g, 0, none⟩) s.L.length c, .slice (some ⟨G, 0, none⟩) s.T.length s.T.length]) (h2 : Own w 0 164 2 (some ⟨g, 0, none⟩) s.L.length c (its s.L))
    (h3 : Row1 w G 3 1 s.T.length s.T.length (s.T.map (.int .i64))) (hg : Grows w W) (hi : i < s.L.length) {S : Nat → Prop} (s1 : S b) (s2 : S G) (s3 : S g) :
    HpAt (((W.setCell ⟨g, i * 2, none⟩ (.int .i64 (x.1 : Int))).setCell ⟨g, i * 2 + 1, none⟩ (.int .u64 (x.2 : Int))).setCell ⟨G, x.1, none⟩ (.int .i64 (i : Int))) S b (s.lay i x) := by
  have hr := (Own.row h2).1
  have n1 := hr.ne h1 (by decide)
  have n2 := h3.ne h1 (by decide)
  have n3 := hr.ne2 h3 (by decide)
  have e := its_set s.L i x hi
  refine ⟨some ⟨g, 0, none⟩, c, G, ?_, ?_, ?_, s1, s2, fun p hp => by injection hp with hp; subst hp; exact s3⟩
  · rw [(HS.lay_len s i x).1, (HS.lay_len s i x).2]
    exact (((h1.grow hg).other n1 _).other n1 _).other n2 _
  · rw [(HS.lay_len s i x).1]
    show Own _ _ _ _ _ _ _ (its (s.L.set i x))
    rw [← e]
    exact ((((hr.grow hg).set _ _).set _ _).other (Ne.symm n3) _).own (Nat.zero_le _)
  · rw [(HS.lay_len s i x).2]
    have : (s.lay i x).T.map (Value.int .i64) = (s.T.map (Value.int .i64)).set x.1 (.int .i64 (i : Int)) := by simp [HS.lay, List.map_set]
    rw [this]
    exact (((h3.grow hg).other n3 _).other n3 _).set _ _
set_option maxRecDepth 20000 in
set_option maxHeartbeats 2000000 in
theorem hpLay (b : Nat) (s : HS) (i : Nat) (x : Itm) (S : Nat → Prop) (w : World) (h : HpAt w S b s) (hi : i < s.L.length) (hx : x.1 < s.T.length) :
    Calls Tryz.prog 104 #[.pointer (some ⟨b, 0, none⟩), .int .i64 (i : Int), itVal x] w fun e w' => e = .returned (.tuple #[]) ∧ HpAt w' S b (s.lay i x) ∧ Touch S w w' := by
  obtain ⟨A, c, G, h1, h2, h3, h4, h5, h6⟩ := h
  obtain ⟨g, rfl, m1, m2⟩ := h2.item hi
  have m3 := h3.int hx
  have h7 := h6 _ rfl
  have H2 := hide h2
  have H3 := hide h3
  have HR := hide h1
  have hr := (Own.row h2).1
  have n1 : ¬ g = b := hr.ne h1 (by decide)
  have n2 : ¬ G = b := h3.ne h1 (by decide)
  have n3 : ¬ g = G := hr.ne2 h3 (by decide)
  have n4 : ¬ g = w.heap.size := by have := hr.lt; omega
  clear h2 h3 h6 hr
  unfold itVal
  go_enter Tryz.func104, Tryz.ntmps104
  go_wp2_with fail
  go_region_with fail
  all_goals go_wp2_with fail
  all_goals go_end0
  all_goals exact ⟨rfl, (HpAt.lay i x HR.out H2.out H3.out ((Grows.refl w).new _) hi h4 h5 h7).grow (Grows.refl _).drew, ((((((Grows.refl w).new _).touch S).set (.inl h7) _).set (.inl h7) _).set (.inl h5) _).drew⟩
end Go.Proofs.YtkfobolbilhjbaaGreat

namespace Go.Proofs.YtkfobolbilhjbaaGreat
open Go Go.RowKit
def wv (W : List Nat) : List Value := W.map fun (x : Nat) => Value.int .u64 (x : Int)
theorem wv_len (W : List Nat) : (wv W).length = W.length := by simp [wv]
theorem wv_at {W : List Nat} {j : Nat} (h : j < W.length) : (wv W)[j]? = some (.int .u64 (gn W j : Int)) := by simp [wv, gn, h]
theorem wv_set (W : List Nat) (j x : Nat) : (wv W).set j (.int .u64 (x : Int)) = wv (W.set j x) := by simp [wv, List.map_set]
structure BtAt (w : World) (b g n : Nat) (W : List Nat) : Prop where
  row : Arr w b 156 [.int .i64 (n : Int), .slice (some ⟨g, 0, none⟩) W.length W.length]
  words : Row1 w g 26 1 W.length W.length (wv W)
  room : n ≤ W.length * 64
  small : ∀ j, j < W.length → gn W j < 18446744073709551616
def hasW (W : List Nat) (i : Nat) : Bool := (gn W (i / 64)).testBit (i % 64)
theorem bitsSize (b n : Nat) (u : Value) (w : World) (h : Arr w b 156 [.int .i64 (n : Int), u]) : Calls Tryz.prog 91 #[.pointer (some ⟨b, 0, none⟩)] w fun e w' => e = .returned (.int .i64 (n : Int)) ∧ w = w' := by
  go_enter Tryz.func91, Tryz.ntmps91
  go_wp2
  go_ret
  exact ⟨rfl, rfl⟩
set_option maxHeartbeats 1000000 in
theorem bitsHasIn (b g n : Nat) (W : List Nat) (i : Nat) (w : World) (h : BtAt w b g n W) (hi : i < n) (hn : n ≤ 65536) : Calls Tryz.prog 80 #[.pointer (some ⟨b, 0, none⟩), .int .i64 (i : Int)] w fun e w' => e = .returned (.bool (hasW W i)) ∧ w = w' := by
  obtain ⟨q, hq⟩ : ∃ q, i / 64 = q := ⟨_, rfl⟩
  obtain ⟨r, hr⟩ : ∃ r, i % 64 = r := ⟨_, rfl⟩
  have hqi : (i : Int) / 64 = (q : Int) := by omega
  have hri : (i : Int) % 64 = (r : Int) := by omega
  have hrb : r < 64 := by omega
  have hql : q < W.length := by have := h.room; omega
  have m0 : Mine w ⟨g, q, none⟩ (.int .u64 (gn W q : Int)) := h.words.mine (wv_at hql)
  have hx := h.small q hql
  have h1 := h.row
  have C := hide (bitsSize b n _ w h1)
  have HH : Hid (hasW W i = (gn W q).testBit r) := by unfold hasW; rw [hq, hr]; exact rfl
  clear h hq hr
  generalize gn W q = x at *
  go_enter Tryz.func80, Tryz.ntmps80
  go_wp2_with (go_at_call 91; refine (C.out).mono ?_; rintro e w' ⟨rfl, rfl⟩)
  go_ret
  refine ⟨ret_bool ?_, rfl⟩
  rw [HH.out, Nat.testBit_eq_decide_div_mod_eq]
  have e : (x : Int) / 2 ^ r = ((x / 2 ^ r : Nat) : Int) := by simp
  have hlt : x / 2 ^ r ≤ x := Nat.div_le_self _ _
  show (bits BinOp.and IntKind.u64 ((x : Int) / 2 ^ r) 1 == 1) = _
  rw [e]
  generalize x / 2 ^ r = y at *
  rw [and_one_u64 _ (by omega) (by omega)]
  apply bool_ext
  simp
  omega
theorem hasW_set (W : List Nat) (i j : Nat) (hi : i / 64 < W.length) : hasW (W.set (i / 64) (gn W (i / 64) ||| 2 ^ (i % 64))) j = (hasW W j || decide (j = i)) := by
  unfold hasW
  rw [gn_set _ _ _ _ hi]
  by_cases h : j / 64 = i / 64
  · rw [if_pos h, Nat.testBit_or, Nat.testBit_two_pow, h]
    congr 1
    apply bool_ext
    simp
    omega
  · rw [if_neg h]
    have : ¬ j = i := fun e => h (by rw [e])
    simp [this]
theorem or_small {x r : Nat} (hx : x < 18446744073709551616) (hr : r < 64) : x ||| 2 ^ r < 18446744073709551616 := by
  have h1 : (2 : Nat) ^ r < 2 ^ 64 := Nat.pow_lt_pow_right (by omega) hr
  have := Nat.or_lt_two_pow (x := x) (y := 2 ^ r) (n := 64) hx h1
  exact this
def GiveAdd (w : World) (b g n : Nat) (W : List Nat) (i : Int) (e : Ending) (w' : World) : Prop :=
  ∃ r W', e = .returned (.bool r) ∧ BtAt w' b g n W' ∧ (∀ j, j < n → hasW W' j = (hasW W j || decide ((j : Int) = i))) ∧ Touch (fun k => k = g) w w'
theorem BtAt.grow {w w' : World} {b g n : Nat} {W : List Nat} (h : BtAt w b g n W) (hg : Grows w w') : BtAt w' b g n W := ⟨h.row.grow hg, h.words.grow hg, h.room, h.small⟩
theorem GiveAdd.same {w w' : World} {b g n : Nat} {W : List Nat} {i : Int} {r : Bool} (h : BtAt w b g n W) (hg : Grows w w') (hn : ∀ j, j < n → (j : Int) = i → hasW W j = true) : GiveAdd w b g n W i (.returned (.bool r)) w' :=
  ⟨r, W, rfl, h.grow hg, fun j hj => by
    by_cases e : (j : Int) = i
    · rw [hn j hj e]; rfl
    · simp [e], hg.touch _⟩
theorem BtAt.put {w W' : World} {b g n : Nat} {W : List Nat} {i : Nat} (h : BtAt w b g n W) (hg : Grows w W') (hi : i < n) : GiveAdd w b g n W i (.returned (.bool true)) (W'.setCell ⟨g, i / 64, none⟩ (.int .u64 ((gn W (i / 64) ||| 2 ^ (i % 64) : Nat) : Int))) := by
  have hl : i / 64 < W.length := by have := h.room; omega
  refine ⟨true, W.set (i / 64) (gn W (i / 64) ||| 2 ^ (i % 64)), rfl, ⟨?_, ?_, by simpa using h.room, fun j hj => ?_⟩, fun j _ => ?_, (hg.touch (fun k => k = g)).set (p := ⟨g, i / 64, none⟩) (.inl rfl) _⟩
  · rw [List.length_set]; exact (h.row.grow hg).other (h.words.ne h.row (by decide)) _
  · rw [List.length_set, ← wv_set]; exact (h.words.grow hg).set _ _
  · rw [gn_set _ _ _ _ hl]
    split
    · exact or_small (h.small _ hl) (by omega)
    · exact h.small j (by simpa using hj)
  · rw [hasW_set _ _ _ hl]
    congr 1
    apply bool_ext
    simp
    omega
set_option maxHeartbeats 2000000 in
theorem bitsAdd (b g n : Nat) (W : List Nat) (i : Int) (w : World) (h : BtAt w b g n W) (hn : n ≤ 65536) : Calls Tryz.prog 90 #[.pointer (some ⟨b, 0, none⟩), .int .i64 i] w (GiveAdd w b g n W i) := by
  have h1 := h.row
  have C := hide (bitsSize b n _ w h1)
  have HB := hide h
  rcases Int.lt_or_le i 0 with h0 | h0
  · have hd : decide (i < 0) = true := decide_eq_true h0
    clear h
    go_enter Tryz.func90, Tryz.ntmps90
    go_wp2_with fail
    go_ret
    exact GiveAdd.same HB.out GG (fun j _ e => by omega)
  · obtain ⟨k, rfl⟩ : ∃ k : Nat, i = (k : Int) := ⟨i.toNat, by omega⟩
    rcases Nat.lt_or_ge k n with hk | hk
    · have hd : decide ((n : Int) ≤ (k : Int)) = false := decide_eq_false (by omega)
      have hd2 : decide (n ≤ k) = false := decide_eq_false (by omega)
      have CH := hide (bitsHasIn b g n W k w h hk hn)
      obtain ⟨q, hq⟩ : ∃ q, k / 64 = q := ⟨_, rfl⟩
      obtain ⟨r, hr⟩ : ∃ r, k % 64 = r := ⟨_, rfl⟩
      have hqi : (k : Int) / 64 = (q : Int) := by omega
      have hri : (k : Int) % 64 = (r : Int) := by omega
      have hrb : r < 64 := by omega
      have hql : q < W.length := by have := h.room; omega
      have m0 : Mine w ⟨g, q, none⟩ (.int .u64 (gn W q : Int)) := h.words.mine (wv_at hql)
      have hx := h.small q hql
      have HP := hide (fun (W' : World) (hg : Grows w W') => h.put hg hk)
      rw [hq, hr] at HP
      have HHH := hide (rfl : hasW W k = hasW W k)
      clear h hq hr
      cases hh : hasW W k with
      | true =>
        rw [hh] at CH
        have HH := hide hh
        clear hh HHH
        go_enter Tryz.func90, Tryz.ntmps90
        go_wp2_with (first
          | (go_at_call 91; refine (C.out).mono ?_; rintro e w' ⟨rfl, rfl⟩)
          | (go_at_call 80; refine (CH.out).mono ?_; rintro e w' ⟨rfl, rfl⟩))
        go_ret
        exact GiveAdd.same HB.out GG (fun j _ e => by
          have e2 : j = k := by omega
          rw [e2]; exact HH.out)
      | false =>
        rw [hh] at CH
        clear hh HHH
        generalize gn W q = u at *
        have htm : (k : Int).tmod 64 = (r : Int) := by rw [Int.tmod_eq_emod_of_nonneg (by omega)]; exact hri
        have HO : Hid (bits BinOp.or IntKind.u64 (u : Int) (IntKind.u64.wrap (2 ^ r)) = ((u ||| 2 ^ r : Nat) : Int)) := by
          have hpb : 2 ^ r < 2 ^ 64 := Nat.pow_lt_pow_right (by omega) hrb
          have hp : (2 : Int) ^ r = ((2 ^ r : Nat) : Int) := by simp
          show _ = _
          rw [hp]
          generalize 2 ^ r = p at *
          rw [show IntKind.u64.wrap (p : Int) = (p : Int) from IntWalk.u64_in _ (by omega)]
          exact u64_or_nat u p hx hpb
        go_enter Tryz.func90, Tryz.ntmps90
        go_wp2_with (first
          | (go_at_call 91; refine (C.out).mono ?_; rintro e w' ⟨rfl, rfl⟩)
          | (go_at_call 80; refine (CH.out).mono ?_; rintro e w' ⟨rfl, rfl⟩))
        (refine wp_region_tail1 13 (by kernel_rfl) (by kernel_rfl) ?_; simp only [List.take_succ_cons, List.take_zero, List.drop_succ_cons, List.drop_zero]; (repeat' ((first | refine gLex_val0 rfl (by kernel_rfl) (fun K hK => ?_) | refine gLex_undef rfl rfl rfl (by kernel_rfl) (fun K hK => ?_) | (refine gLex_ask rfl rfl rfl ?_; first | (apply gAsk_yes; kernel_rfl; intro K hK) | ((first | apply gAsk_no1 | apply gAsk_no2); kernel_rfl; intro K hK))) <;> (go_simp; (try (simp only [↓IntWalk.iteOmega]; try go_simp)); (try simp (disch := omega) only [IntWalk.i64_in]); (try simp (disch := omega) only [IntWalk.u64_in]); refine hK _ ?_; clear hK K))); refine gLex_endT (fun x => ?_))
        go_wp2_with fail
        rw [HO.out]
        go_ret
        exact HP.out _ GG
    · have hd : decide ((n : Int) ≤ (k : Int)) = true := decide_eq_true (by omega)
      have hd2 : decide (n ≤ k) = true := decide_eq_true hk
      clear h
      go_enter Tryz.func90, Tryz.ntmps90
      go_wp2_with (go_at_call 91; refine (C.out).mono ?_; rintro e w' ⟨rfl, rfl⟩)
      go_ret
      exact GiveAdd.same HB.out GG (fun j _ e => by omega)
end Go.Proofs.YtkfobolbilhjbaaGreat

namespace Go.Proofs.YtkfobolbilhjbaaGreat
open Go Go.RowKit
set_option maxHeartbeats 400000 in
theorem r5node (N v : Int) (s : Value) (w : World) : Calls Tryz.prog 43 #[.agg #[.int .i64 N, s], .int .i64 v] w fun e w' => e = .returned (.bool (nodeB N v)) ∧ Grows w w' := by
  go_enter Tryz.func43, Tryz.ntmps43
  go_wp2
  all_goals go_ret
  all_goals exact ⟨ret_bool (bool_ext (by unfold nodeB; simp; try omega)), GG⟩

set_option maxHeartbeats 400000 in
theorem r5weight (x : Int) (w : World) : Calls Tryz.prog 44 #[.int .u64 x] w fun e w' => e = .returned (.bool (wtB x)) ∧ w = w' := by
  go_enter Tryz.func44, Tryz.ntmps44
  go_wp2
  all_goals go_ret
  all_goals exact ⟨ret_bool (bool_ext (by unfold wtB; simp; try omega)), rfl⟩

theorem any_false_iff {E : List Edg} {p : Edg → Bool} {n : Nat} (hl : E.length = n) (h : ∀ j, j < n → p (ge E j) = false) : E.any p = false := by
  rw [List.any_eq_false]
  intro e he
  obtain ⟨j, hj, rfl⟩ := List.mem_iff_getElem.1 he
  have := h j (by omega)
  simpa [ge, hj] using this
theorem any_true_at {E : List Edg} {p : Edg → Bool} {j : Nat} (hj : j < E.length) (h : p (ge E j) = true) : E.any p = true := by
  rw [List.any_eq_true]
  exact ⟨ge E j, by simp [ge, hj], h⟩

set_option maxRecDepth 20000 in
set_option maxHeartbeats 4000000 in
theorem r5Right (N : Int) (A : Option Addr) (n c : Nat) (E : List Edg) (w : World) (h : Rd w A 3 n (esCells E)) (hn : n ≤ 1000000) :
    Calls Tryz.prog 23 #[.agg #[.int .i64 N, .slice A n c]] w fun e w' => e = .returned (.int .i64 (rightF N E)) ∧ Grows w w' := by
  have HL := hide h.elen
  have HR := hide h
  clear h
  by_cases h1 : N < 1 ∨ 4096 < N
  · have HW : Hid (rightF N E = 2) := by unfold rightF; rw [if_pos h1]; rfl
    go_enter Tryz.func23, Tryz.ntmps23
    go_wp2
    all_goals go_ret
    all_goals exact ⟨ret_int HW.out.symm, GG⟩
  have h3 : 1 ≤ N := by omega
  have h4 : N ≤ 4096 := by omega
  by_cases h2 : 16384 < n
  · have HW : Hid (rightF N E = 5) := by unfold rightF; rw [if_neg h1, if_pos (by have := HL.out; omega)]; rfl
    clear h1
    go_enter Tryz.func23, Tryz.ntmps23
    go_wp2
    all_goals go_ret
    all_goals exact ⟨ret_int HW.out.symm, GG⟩
  have HN := hide (show ∀ x, rightF N E = x ↔ (if E.any (looseB N) then (7 : Int) else if E.any heavyB then 2 else 0) = x from fun x => by unfold rightF; rw [if_neg h1, if_neg (by have := HL.out; omega)])
  have HG0 := hide (HR.out.new (.cells #[.int .i64 N, .slice A n c] 24))
  clear h1
  go_enter Tryz.func23, Tryz.ntmps23
  go_wp2
  go_loopw [3] (fun i wr => ∃ k : Nat, k ≤ n ∧ i = .int .i64 (k : Int) ∧ (∃ x : Later (w.alloc (.cells #[.int .i64 N, .slice A n c] 24)), wr = x.now) ∧ ∀ j, j < k → looseB N (ge E j) = false) (fun i _ => n - (intOf i).toNat)
  case atStart => exact ⟨0, by omega, by go_num, ⟨⟨_, Grows.refl _⟩, rfl⟩, fun j h1 => by omega⟩
  case round =>
    obtain ⟨q, hq, rfl, ⟨x, rfl⟩, hall⟩ := hrel
    have HA := hide hall
    clear hall
    by_cases hend : n ≤ q
    · have HB := hide (any_false_iff HL.out fun j hj => HA.out j (by omega))
      have hd : decide (q < n) = false := by simp; omega
      go_wp2
      go_loopw [4] (fun i wr => ∃ k : Nat, k ≤ n ∧ i = .int .i64 (k : Int) ∧ (∃ x : Later (w.alloc (.cells #[.int .i64 N, .slice A n c] 24)), wr = x.now) ∧ ∀ j, j < k → heavyB (ge E j) = false) (fun i _ => n - (intOf i).toNat)
      case atStart => exact ⟨0, by omega, by go_num, ⟨_, rfl⟩, fun j h1 => by omega⟩
      case round =>
        obtain ⟨r, hr, rfl, ⟨y, rfl⟩, hall⟩ := hrel
        have HC := hide hall
        clear hall
        by_cases hend2 : n ≤ r
        · have HW : Hid (rightF N E = 0) := by
            have h := any_false_iff (p := heavyB) HL.out fun j hj => HC.out j (by omega)
            rw [show Hid (rightF N E = 0) = (rightF N E = 0) from rfl, HN.out, HB.out, h]; rfl
          go_wp2
          go_ret
          exact ⟨ret_int HW.out.symm, GG⟩
        · obtain ⟨b, off, rfl, hc⟩ := HG0.out.edges (by omega)
          obtain ⟨hc1, hc2, hc3⟩ := hc r (by omega)
          clear hc hc1 hc2
          cases hp : wtB (ge E r).w with
          | false =>
            have HW : Hid (rightF N E = 2) := by
              have h := any_true_at (p := heavyB) (E := E) (j := r) (by have := HL.out; omega) (by unfold heavyB; rw [hp]; rfl)
              rw [show Hid (rightF N E = 2) = (rightF N E = 2) from rfl, HN.out, HB.out, h]; rfl
            have C := fun W => r5weight (ge E r).w W
            rw [hp] at C
            have HD := hide C
            clear hp C
            go_wp2_with (first | (go_at_call 44; refine (HD.out _).mono ?_; rintro e w' ⟨rfl, rfl⟩))
            go_ret
            exact ⟨ret_int HW.out.symm, GG⟩
          | true =>
            have HP : Hid (heavyB (ge E r) = false) := by unfold heavyB; rw [hp]; rfl
            have C := fun W => r5weight (ge E r).w W
            rw [hp] at C
            have HD := hide C
            clear hp C
            go_wp2_with (first | (go_at_call 44; refine (HD.out _).mono ?_; rintro e w' ⟨rfl, rfl⟩))
            go_roundw
            case measure => simp [intOf]; omega
            case rel =>
              refine ⟨r + 1, by omega, by go_num, ⟨_, rfl⟩, fun j h1 => ?_⟩
              by_cases hj : j = r
              · rw [hj]; exact HP.out
              · exact HC.out j (by omega)
    · obtain ⟨b, off, rfl, hc⟩ := HG0.out.edges (by omega)
      obtain ⟨hc1, hc2, hc3⟩ := hc q (by omega)
      clear hc hc3
      have C1 := fun W => r5node N (ge E q).f (.slice (some ⟨b, off, none⟩) n c) W
      have C2 := fun W => r5node N (ge E q).t (.slice (some ⟨b, off, none⟩) n c) W
      have HLo := hide (show looseB N (ge E q) = (!nodeB N (ge E q).f || (!nodeB N (ge E q).t || decide ((ge E q).f = (ge E q).t))) from rfl)
      have HT : Hid (looseB N (ge E q) = true → rightF N E = 7) := fun h => by
        have h' := any_true_at (p := looseB N) (E := E) (j := q) (by have := HL.out; omega) h
        rw [HN.out, h']; rfl
      cases h1 : nodeB N (ge E q).f with
      | false =>
        rw [h1] at C1
        have HD := hide C1
        have HW := hide (HT.out (by rw [HLo.out, h1]; rfl))
        clear C1 C2 h1
        go_wp2_with fail
        ((first | refine wp_region_gen2 (by kernel_rfl) (by kernel_rfl) ?_ | refine wp_region_gen (by kernel_rfl) (by kernel_rfl) ?_); (repeat' ((first | refine gLex_val0 rfl (by kernel_rfl) (fun K hK => ?_) | refine gLex_undef rfl rfl rfl (by kernel_rfl) (fun K hK => ?_) | (refine gLex_ask rfl rfl rfl ?_; first | (apply gAsk_yes; kernel_rfl; intro K hK) | ((first | apply gAsk_no1 | apply gAsk_no2); kernel_rfl; intro K hK) | (apply gAsk_part; kernel_rfl; all_goals (intro h K hK; (try simp only [Bool.not_true] at h); (try simp only [Bool.not_false] at h); (try simp only [decide_eq_true_eq] at h); (try simp only [decide_eq_false_iff_not] at h); try (exfalso; first | contradiction | omega))))) <;> (go_simp; (try (simp only [↓IntWalk.iteOmega]; try go_simp)); (try simp (disch := omega) only [IntWalk.i64_in]); (try simp (disch := omega) only [IntWalk.u64_in]); first | (refine hK _ ?_; clear hK K) | (apply Exists.intro; refine ⟨fun x => ?_, hK _ ?_⟩; (first | (go_at_call 43; exact HD.out _)); clear hK K)))); all_goals ((apply gLex_end); intro x))
        go_wp2
        go_ret
        exact ⟨ret_int HW.out.symm, GG⟩
      | true =>
        rw [h1] at C1
        have HD := hide C1
        clear C1
        cases h2 : nodeB N (ge E q).t with
        | false =>
          rw [h2] at C2
          have HE := hide C2
          have HW := hide (HT.out (by rw [HLo.out, h1, h2]; rfl))
          clear C2 h1 h2
          go_wp2_with fail
          ((first | refine wp_region_gen2 (by kernel_rfl) (by kernel_rfl) ?_ | refine wp_region_gen (by kernel_rfl) (by kernel_rfl) ?_); (repeat' ((first | refine gLex_val0 rfl (by kernel_rfl) (fun K hK => ?_) | refine gLex_undef rfl rfl rfl (by kernel_rfl) (fun K hK => ?_) | (refine gLex_ask rfl rfl rfl ?_; first | (apply gAsk_yes; kernel_rfl; intro K hK) | ((first | apply gAsk_no1 | apply gAsk_no2); kernel_rfl; intro K hK) | (apply gAsk_part; kernel_rfl; all_goals (intro h K hK; (try simp only [Bool.not_true] at h); (try simp only [Bool.not_false] at h); (try simp only [decide_eq_true_eq] at h); (try simp only [decide_eq_false_iff_not] at h); try (exfalso; first | contradiction | omega))))) <;> (go_simp; (try (simp only [↓IntWalk.iteOmega]; try go_simp)); (try simp (disch := omega) only [IntWalk.i64_in]); (try simp (disch := omega) only [IntWalk.u64_in]); first | (refine hK _ ?_; clear hK K) | (apply Exists.intro; refine ⟨fun x => ?_, hK _ ?_⟩; (first | (go_at_call_of 43 ((ge E q).f); exact HD.out _) | (go_at_call_of 43 ((ge E q).t); exact HE.out _)); clear hK K)))); all_goals ((apply gLex_end); intro x))
          go_wp2
          go_ret
          exact ⟨ret_int HW.out.symm, GG⟩
        | true =>
          rw [h2] at C2
          have HE := hide C2
          by_cases h5 : (ge E q).f = (ge E q).t
          · have HW := hide (HT.out (by rw [HLo.out, h1, h2, decide_eq_true h5]; rfl))
            have h5' : ((ge E q).f == (ge E q).t) = true := by simpa using h5
            clear C2 h1 h2 h5
            go_wp2_with fail
            ((first | refine wp_region_gen2 (by kernel_rfl) (by kernel_rfl) ?_ | refine wp_region_gen (by kernel_rfl) (by kernel_rfl) ?_); (repeat' ((first | refine gLex_val0 rfl (by kernel_rfl) (fun K hK => ?_) | refine gLex_undef rfl rfl rfl (by kernel_rfl) (fun K hK => ?_) | (refine gLex_ask rfl rfl rfl ?_; first | (apply gAsk_yes; kernel_rfl; intro K hK) | ((first | apply gAsk_no1 | apply gAsk_no2); kernel_rfl; intro K hK) | (apply gAsk_part; kernel_rfl; all_goals (intro h K hK; (try simp only [Bool.not_true] at h); (try simp only [Bool.not_false] at h); (try simp only [decide_eq_true_eq] at h); (try simp only [decide_eq_false_iff_not] at h); try (exfalso; first | contradiction | omega))))) <;> (go_simp; (try (simp only [↓IntWalk.iteOmega]; try go_simp)); (try simp (disch := omega) only [IntWalk.i64_in]); (try simp (disch := omega) only [IntWalk.u64_in]); first | (refine hK _ ?_; clear hK K) | (apply Exists.intro; refine ⟨fun x => ?_, hK _ ?_⟩; (first | (go_at_call_of 43 ((ge E q).f); exact HD.out _) | (go_at_call_of 43 ((ge E q).t); exact HE.out _)); clear hK K)))); all_goals ((apply gLex_end); intro x))
            go_wp2
            go_ret
            exact ⟨ret_int HW.out.symm, GG⟩
          · have HP : Hid (looseB N (ge E q) = false) := by rw [show Hid (looseB N (ge E q) = false) = (looseB N (ge E q) = false) from rfl, HLo.out, h1, h2, decide_eq_false h5]; rfl
            have h5' : ((ge E q).f == (ge E q).t) = false := by simpa using h5
            clear C2 h1 h2 h5
            go_wp2_with fail
            ((first | refine wp_region_gen2 (by kernel_rfl) (by kernel_rfl) ?_ | refine wp_region_gen (by kernel_rfl) (by kernel_rfl) ?_); (repeat' ((first | refine gLex_val0 rfl (by kernel_rfl) (fun K hK => ?_) | refine gLex_undef rfl rfl rfl (by kernel_rfl) (fun K hK => ?_) | (refine gLex_ask rfl rfl rfl ?_; first | (apply gAsk_yes; kernel_rfl; intro K hK) | ((first | apply gAsk_no1 | apply gAsk_no2); kernel_rfl; intro K hK) | (apply gAsk_part; kernel_rfl; all_goals (intro h K hK; (try simp only [Bool.not_true] at h); (try simp only [Bool.not_false] at h); (try simp only [decide_eq_true_eq] at h); (try simp only [decide_eq_false_iff_not] at h); try (exfalso; first | contradiction | omega))))) <;> (go_simp; (try (simp only [↓IntWalk.iteOmega]; try go_simp)); (try simp (disch := omega) only [IntWalk.i64_in]); (try simp (disch := omega) only [IntWalk.u64_in]); first | (refine hK _ ?_; clear hK K) | (apply Exists.intro; refine ⟨fun x => ?_, hK _ ?_⟩; (first | (go_at_call_of 43 ((ge E q).f); exact HD.out _) | (go_at_call_of 43 ((ge E q).t); exact HE.out _)); clear hK K)))); all_goals ((apply gLex_end); intro x))
            go_wp2
            go_roundw
            case measure => simp [intOf]; omega
            case rel =>
              refine ⟨q + 1, by omega, by go_num, ⟨_, rfl⟩, fun j h1 => ?_⟩
              by_cases hj : j = q
              · rw [hj]; exact HP.out
              · exact HA.out j (by omega)

end Go.Proofs.YtkfobolbilhjbaaGreat

namespace Go.Proofs.YtkfobolbilhjbaaGreat
open Go Go.RowKit
theorem gi_mem {l : List Int} {j : Nat} (h : j < l.length) : gi l j ∈ l := by
  unfold gi
  rw [List.getD_eq_getElem?_getD, List.getElem?_eq_getElem h]
  exact List.getElem_mem h
theorem mem_gi {l : List Int} {x : Int} (h : x ∈ l) : ∃ j, j < l.length ∧ gi l j = x := by
  obtain ⟨j, hj, rfl⟩ := List.mem_iff_getElem.1 h
  exact ⟨j, hj, by simp [gi, hj]⟩

end Go.Proofs.YtkfobolbilhjbaaGreat

namespace Go.Proofs.YtkfobolbilhjbaaGreat
open Go Go.RowKit
theorem es_one (E : List Edg) : ∀ u ∈ esCells E, u.oneCell' = true := by
  intro u hu
  obtain ⟨e, _, h⟩ := List.mem_flatMap.1 hu
  unfold eCells at h
  simp at h
  rcases h with rfl | rfl | rfl <;> rfl
set_option maxRecDepth 20000 in
set_option maxHeartbeats 2000000 in
theorem cloneE (A : Option Addr) (n c : Nat) (E : List Edg) (w : World) (h : Rd w A 3 n (esCells E)) (hn : n ≤ 1000000) :
    Calls Tryz.prog 83 #[.slice A n c] w fun e w' => ∃ A' c', e = .returned (.slice A' n c') ∧ Own w' w.heap.size 53 3 A' n c' (esCells E) ∧ Grows w w' := by
  cases A with
  | none =>
    have hn0 : n = 0 := by
      rcases Nat.eq_zero_or_pos n with h0 | h0
      · exact h0
      · obtain ⟨_, _, e, _⟩ := h.2 h0 (by omega); cases e
    subst hn0
    have hE : E = [] := List.eq_nil_of_length_eq_zero h.elen
    subst hE
    clear h
    have hnil := fun (w : World) (a : Option Addr) (n c n' c' : Nat) => Lib.run_eql_slice_nil (P := Tryz.prog) w 22 53 a n c n' c' Tryz.underlying22
    go_enter Tryz.func83, Tryz.ntmps83
    go_wp2
    go_ret
    exact ⟨none, 0, rfl, Own.nil _ _ _ _, GG⟩
  | some ad =>
    have HR := hide h
    clear h
    have hnil := fun (w : World) (a : Option Addr) (n c n' c' : Nat) => Lib.run_eql_slice_nil (P := Tryz.prog) w 22 53 a n c n' c' Tryz.underlying22
    go_enter Tryz.func83, Tryz.ntmps83
    go_wp2_with (at_builtin; refine wp_appAll elemEdge rfl _ _ rfl w GG 0 0 _ [] rfl (Own.empty _ _ _ _ (Nat.le_refl _)) ad n c _ rfl (HR.out.grows GG) (es_one E) (by omega) ?_; intro A3 c3 y3 hown3; have HO3 := hide hown3; clear hown3)
    go_ret
    exact ⟨A3, c3, by first | rfl | (simp; done) | (rw [Nat.zero_add]; rfl), by have := HO3.out; rwa [Nat.zero_add, List.nil_append] at this, GG⟩
theorem Own.low {w : World} {B n c size : Nat} {e : TypeId} {A : Option Addr} {xs : List Value} (h : Own w B e size A n c xs) {q : Addr} (hq : q.block < B) (u : Value) : Own (w.setCell q u) B e size A n c xs := by
  refine ⟨h.1, ?_⟩
  rcases h.2 with h1 | ⟨g, cap, cur, h1, h2, h3, h4⟩
  · exact .inl h1
  · refine .inr ⟨g, cap, cur, h1, h2, ?_, h4⟩
    rw [← h3]
    simp [World.setCell, Array.getElem?_modify]
    intro e
    omega
theorem Own.base {w : World} {B B' n c size : Nat} {e : TypeId} {A : Option Addr} {xs : List Value} (h : Own w B e size A n c xs) (hB : B' ≤ B) : Own w B' e size A n c xs := by
  refine ⟨h.1, ?_⟩
  rcases h.2 with h1 | ⟨g, cap, cur, h1, h2, h3⟩
  · exact .inl h1
  · exact .inr ⟨g, cap, cur, h1, Nat.le_trans hB h2, h3⟩
def GiveOG (w : World) (N : Int) (E : List Edg) (e : Ending) (w' : World) : Prop := ∃ A c, e = .returned (.agg #[.int .i64 N, .slice A E.length c]) ∧ Own w' w.heap.size 53 3 A E.length c (esCells E) ∧ Grows w w'
set_option maxRecDepth 20000 in
set_option maxHeartbeats 2000000 in
theorem gClone (N : Int) (A : Option Addr) (n c : Nat) (E : List Edg) (w : World) (h : Rd w A 3 n (esCells E)) (hn : n ≤ 1000000) :
    Calls Tryz.prog 64 #[.agg #[.int .i64 N, .slice A n c]] w (GiveOG w N E) := by
  have HL := hide h.elen
  have HC := hide (fun W (g : Grows w W) => cloneE A n c E W (h.grows g) hn)
  clear h
  go_enter Tryz.func64, Tryz.ntmps64
  go_upto_region 1 with fail
  go_region_with (go_at_call 83; refine (HC.out _ GG).mono ?_; rintro e w' ⟨A1, c1, rfl, ho1, hg⟩; obtain ⟨x1, rfl⟩ := hg.later; have HO1 := hide ho1; clear hg ho1)
  all_goals go_wp2_with fail
  all_goals refine bodyPost_ret (v := .agg #[.int .i64 N, .slice A1 n c1]) (by simp (maxDischargeDepth := 6) [results, Tryz.results64, go_sem, *]) rfl ⟨A1, c1, by rw [HL.out], ?_, GG⟩
  all_goals rw [HL.out]
  all_goals exact ((HO1.out.low (by simp) _).low (by simp) _).base (by simp; omega)
end Go.Proofs.YtkfobolbilhjbaaGreat

namespace Go.Proofs.YtkfobolbilhjbaaGreat
open Go Go.RowKit
theorem Rd.wordsH {w : World} {A : Option Addr} {n : Nat} {W : List Nat} (h : Rd w A 1 n (wv W)) (hn : 0 < n) : W.length = n ∧ ∃ b off, A = some ⟨b, off, none⟩ ∧ ∀ k, k < n → Holds w ⟨b, off + k, none⟩ (.int .u64 (gn W k : Int)) := by
  have hl : W.length = n := by have := h.len; rw [wv_len] at this; omega
  obtain ⟨b, off, e, hc⟩ := h.at_ hn
  exact ⟨hl, b, off, e, fun k hk => ⟨hc k _ (wv_at (by omega))⟩⟩
theorem Rd.wlen {w : World} {A : Option Addr} {n : Nat} {W : List Nat} (h : Rd w A 1 n (wv W)) : W.length = n := by have := h.len; rw [wv_len] at this; omega
theorem wv_one (W : List Nat) : ∀ u ∈ wv W, u.oneCell' = true := by
  intro u hu
  unfold wv at hu
  obtain ⟨x, _, rfl⟩ := List.mem_map.1 hu
  rfl
set_option maxRecDepth 20000 in
set_option maxHeartbeats 1000000 in
theorem indexU (A : Option Addr) (n c : Nat) (E : List Nat) (k : FuncId) (cap : Array Value) (p : Nat → Bool) (w : World) (h : Rd w A 1 n (wv E)) (hn : n ≤ 1000000) (hk : ∀ args W, (callFunc k args).run Tryz.prog W = .ok (.enter k args) W)
    (hf : ∀ W, Grows w W → ∀ j, j < n → Calls Tryz.prog k (#[.int .u64 (gn E j : Int)] ++ cap) W fun x w' => x = .returned (.bool (p (gn E j))) ∧ Grows W w') :
    Calls Tryz.prog 61 #[.slice A n c, .func (.func k) #[] cap] w fun e w' => e = .returned (.int .i64 (firstI p E)) ∧ Grows w w' := by
  have HL := hide h.wlen
  have HR := hide h
  have HF := hide hf
  clear h hf
  go_enter Tryz.func61, Tryz.ntmps61
  go_wp2
  go_loopw [8] (fun i wr => ∃ k : Nat, k ≤ n ∧ i = .int .i64 (k : Int) ∧ (∃ x : Later w, wr = x.now) ∧ ∀ j, j < k → p (gn E j) = false) (fun i _ => n - (Go.RowKit.intOf i).toNat)
  case atStart => exact ⟨0, by omega, by go_num, ⟨⟨w, Grows.refl w⟩, rfl⟩, fun j h1 => by omega⟩
  case round =>
    obtain ⟨q, hq, rfl, ⟨x, rfl⟩, hall⟩ := hrel
    have HA := hide hall
    clear hall
    by_cases hend : n ≤ q
    · go_wp2
      go_ret
      refine ⟨ret_int ?_, GG⟩
      have hl := HL.out
      have hh := HA.out
      rw [firstI_none]
      intro e he
      obtain ⟨j, hj, rfl⟩ := List.mem_iff_getElem.1 he
      have := hh j (by omega)
      simpa [gn, hj] using this
    · obtain ⟨_, b, off, rfl, hc⟩ := HR.out.wordsH (by omega)
      have hc1 := hc q (by omega)
      clear hc
      have CF := hide (fun (W : World) (g : Grows w W) => HF.out W g q (by omega))
      have HP0 : Hid (∀ (p' : Bool), p (gn E q) = p' → p (E.getD q 0) = p') := fun p' h => h
      cases hp : p (gn E q) with
      | true =>
        have HW : Hid (firstI p E = q) := firstI_at p 0 E q (by have := HL.out; omega) HA.out hp
        rw [hp] at CF
        clear hp HP0
        go_wp2_with fail
        refine (CF.out _ GG).mono ?_; rintro e w' ⟨rfl, hg⟩; obtain ⟨x1, rfl⟩ := Grows.later2 hg; clear hg
        go_wp2
        go_ret
        exact ⟨ret_int HW.out.symm, GG⟩
      | false =>
        have HP := hide hp
        rw [hp] at CF
        clear hp HP0
        go_wp2_with fail
        refine (CF.out _ GG).mono ?_; rintro e w' ⟨rfl, hg⟩; obtain ⟨x1, rfl⟩ := Grows.later2 hg; clear hg
        go_wp2
        go_roundw
        case measure => simp [Go.RowKit.intOf]; omega
        case rel =>
          refine ⟨q + 1, by omega, by go_num, ⟨_, rfl⟩, fun j h1 => ?_⟩
          by_cases hj : j = q
          · rw [hj]; exact HP.out
          · exact HA.out j (by omega)
set_option maxHeartbeats 1000000 in
theorem containsU (A : Option Addr) (n c : Nat) (E : List Nat) (k : FuncId) (cap : Array Value) (p : Nat → Bool) (w : World) (h : Rd w A 1 n (wv E)) (hn : n ≤ 1000000) (hk : ∀ args W, (callFunc k args).run Tryz.prog W = .ok (.enter k args) W)
    (hf : ∀ W, Grows w W → ∀ j, j < n → Calls Tryz.prog k (#[.int .u64 (gn E j : Int)] ++ cap) W fun x w' => x = .returned (.bool (p (gn E j))) ∧ Grows W w') :
    Calls Tryz.prog 47 #[.slice A n c, .func (.func k) #[] cap] w fun e w' => e = .returned (.bool (E.any p)) ∧ Grows w w' := by
  have HC := hide (indexU A n c E k cap p w h hn hk hf)
  have HV := hide (firstI_any p E)
  clear h hf hk
  go_enter Tryz.func47, Tryz.ntmps47
  go_wp2_with (first | (go_at_call 61; refine (HC.out).mono ?_; rintro e w' ⟨rfl, hg⟩; (first | obtain ⟨x, rfl⟩ := Grows.later2 hg | obtain ⟨x, rfl⟩ := Grows.later hg); clear hg))
  all_goals go_ret
  all_goals exact ⟨ret_bool (by rw [← HV.out]), GG⟩
def penB (w : Nat) : Bool := decide (w < 1 ∨ 17592186044416 < w)
set_option maxHeartbeats 400000 in
theorem djCheck1 (x : Nat) (w : World) : Calls Tryz.prog 46 #[.int .u64 (x : Int)] w fun e w' => e = .returned (.bool (penB x)) ∧ Grows w w' := by
  go_enter Tryz.func46, Tryz.ntmps46
  go_wp2
  all_goals go_ret
  all_goals exact ⟨ret_bool (bool_ext (by unfold penB; simp; try omega)), GG⟩
def dcF (N s : Int) (E : List Edg) (W : List Nat) : Int := if rightF N E ≠ 0 then 1 else if nodeB N s = false then 7 else if 0 < W.length ∧ W.length ≠ E.length then 1 else if W.any penB then 2 else 0
abbrev oVal (back : Bool) (nn ne : Value) (Aw : Option Addr) (nw cw most : Nat) : Value := .agg #[.bool back, nn, ne, .slice Aw nw cw, .int .u64 (most : Int)]
set_option maxRecDepth 20000 in
set_option maxHeartbeats 4000000 in
theorem djCheck (N s : Int) (A : Option Addr) (n c : Nat) (E : List Edg) (back : Bool) (nn ne : Value) (Aw : Option Addr) (nw cw most : Nat) (W : List Nat) (w : World) (h : Rd w A 3 n (esCells E)) (hW : Rd w Aw 1 nw (wv W)) (hn : n ≤ 1000000) (hnw : nw ≤ 1000000) :
    Calls Tryz.prog 26 #[.agg #[.int .i64 N, .slice A n c], .int .i64 s, oVal back nn ne Aw nw cw most] w fun e w' => e = .returned (.int .i64 (dcF N s E W)) ∧ Grows w w' := by
  unfold oVal
  have HL := hide h.elen
  have HLW := hide hW.wlen
  have C1 := hide (fun (W : World) (g : Grows w W) => gRight N A n c E W (h.grows g) hn)
  have K1 := fun args W => run_callGo (P := Tryz.prog) Tryz.func46 (by kernel_rfl) (by kernel_rfl) args W
  have C3 := hide (fun (W1 : World) (g : Grows w W1) => containsU Aw nw cw W 46 #[] penB W1 (hW.grows g) hnw K1 (fun W2 _ j _ => djCheck1 (gn W j) W2))
  clear h hW K1
  by_cases hr : rightF N E = 0
  · have C2 := hide (fun (W : World) => gNode N s (.slice A n c) W)
    rw [hr] at C1
    cases hb : nodeB N s with
    | false =>
      have HD := hide (show dcF N s E W = 7 from by unfold dcF; rw [hr, hb]; simp)
      rw [hb] at C2
      clear hb hr
      go_enter Tryz.func26, Tryz.ntmps26
      go_wp2_with fail
      refine (C1.out _ GG).mono ?_; rintro e w' ⟨rfl, hg⟩; obtain ⟨x1, rfl⟩ := hg.later; clear hg
      go_wp2_with fail
      refine (C2.out _).mono ?_; rintro e w' ⟨rfl, hg⟩; obtain ⟨x2, rfl⟩ := Grows.later2 hg; clear hg
      go_wp2_with fail
      go_ret
      exact ⟨ret_int HD.out.symm, GG⟩
    | true =>
      rw [hb] at C2
      by_cases hl : 0 < nw ∧ nw ≠ n
      · have HD := hide (show dcF N s E W = 1 from by unfold dcF; rw [hr, hb, HLW.out, HL.out, if_pos hl]; simp)
        obtain ⟨hl1, hl2⟩ := hl
        have hl3 : ((nw : Int) == (n : Int)) = false := beq_eq_false_iff_ne.2 (by omega)
        clear hb hr hl2
        go_enter Tryz.func26, Tryz.ntmps26
        go_wp2_with fail
        refine (C1.out _ GG).mono ?_; rintro e w' ⟨rfl, hg⟩; obtain ⟨x1, rfl⟩ := hg.later; clear hg
        go_wp2_with fail
        refine (C2.out _).mono ?_; rintro e w' ⟨rfl, hg⟩; obtain ⟨x2, rfl⟩ := Grows.later2 hg; clear hg
        go_wp2_with fail
        go_ret
        exact ⟨ret_int HD.out.symm, GG⟩
      · have HD := hide (show dcF N s E W = if W.any penB then 2 else 0 from by unfold dcF; rw [hr, hb, HLW.out, HL.out, if_neg hl]; simp)
        cases ha : W.any penB with
        | true =>
          rw [ha] at C3 HD
          clear ha hb hr
          by_cases hz : nw = 0
          · subst hz
            clear hl
            go_enter Tryz.func26, Tryz.ntmps26
            go_wp2_with fail
            refine (C1.out _ GG).mono ?_; rintro e w' ⟨rfl, hg⟩; obtain ⟨x1, rfl⟩ := hg.later; clear hg
            go_wp2_with fail
            refine (C2.out _).mono ?_; rintro e w' ⟨rfl, hg⟩; obtain ⟨x2, rfl⟩ := Grows.later2 hg; clear hg
            go_wp2_with fail
            refine (C3.out _ GG).mono ?_; rintro e w' ⟨rfl, hg⟩; obtain ⟨x3, rfl⟩ := Grows.later2 hg; clear hg
            go_wp2_with fail
            go_ret
            exact ⟨ret_int HD.out.symm, GG⟩
          · obtain rfl : nw = n := by omega
            have hp : 0 < nw := by omega
            clear hl hz
            go_enter Tryz.func26, Tryz.ntmps26
            go_wp2_with fail
            refine (C1.out _ GG).mono ?_; rintro e w' ⟨rfl, hg⟩; obtain ⟨x1, rfl⟩ := hg.later; clear hg
            go_wp2_with fail
            refine (C2.out _).mono ?_; rintro e w' ⟨rfl, hg⟩; obtain ⟨x2, rfl⟩ := Grows.later2 hg; clear hg
            go_wp2_with fail
            refine (C3.out _ GG).mono ?_; rintro e w' ⟨rfl, hg⟩; obtain ⟨x3, rfl⟩ := Grows.later2 hg; clear hg
            go_wp2_with fail
            go_ret
            exact ⟨ret_int HD.out.symm, GG⟩
        | false =>
          rw [ha] at C3 HD
          clear ha hb hr
          by_cases hz : nw = 0
          · subst hz
            clear hl
            go_enter Tryz.func26, Tryz.ntmps26
            go_wp2_with fail
            refine (C1.out _ GG).mono ?_; rintro e w' ⟨rfl, hg⟩; obtain ⟨x1, rfl⟩ := hg.later; clear hg
            go_wp2_with fail
            refine (C2.out _).mono ?_; rintro e w' ⟨rfl, hg⟩; obtain ⟨x2, rfl⟩ := Grows.later2 hg; clear hg
            go_wp2_with fail
            refine (C3.out _ GG).mono ?_; rintro e w' ⟨rfl, hg⟩; obtain ⟨x3, rfl⟩ := Grows.later2 hg; clear hg
            go_wp2_with fail
            go_ret
            exact ⟨ret_int HD.out.symm, GG⟩
          · obtain rfl : nw = n := by omega
            have hp : 0 < nw := by omega
            clear hl hz
            go_enter Tryz.func26, Tryz.ntmps26
            go_wp2_with fail
            refine (C1.out _ GG).mono ?_; rintro e w' ⟨rfl, hg⟩; obtain ⟨x1, rfl⟩ := hg.later; clear hg
            go_wp2_with fail
            refine (C2.out _).mono ?_; rintro e w' ⟨rfl, hg⟩; obtain ⟨x2, rfl⟩ := Grows.later2 hg; clear hg
            go_wp2_with fail
            refine (C3.out _ GG).mono ?_; rintro e w' ⟨rfl, hg⟩; obtain ⟨x3, rfl⟩ := Grows.later2 hg; clear hg
            go_wp2_with fail
            go_ret
            exact ⟨ret_int HD.out.symm, GG⟩
  · have hr2 : (rightF N E == 0) = false := beq_eq_false_iff_ne.2 hr
    have HD := hide (show dcF N s E W = 1 from by unfold dcF; rw [if_pos hr])
    clear hr
    generalize rightF N E = r at *
    go_enter Tryz.func26, Tryz.ntmps26
    go_wp2_with fail
    refine (C1.out _ GG).mono ?_; rintro e w' ⟨rfl, hg⟩; obtain ⟨x1, rfl⟩ := hg.later; clear hg
    go_wp2_with fail
    go_ret
    exact ⟨ret_int HD.out.symm, GG⟩
set_option maxRecDepth 20000 in
set_option maxHeartbeats 4000000 in
theorem r14Check (N s : Int) (A : Option Addr) (n c : Nat) (E : List Edg) (back : Bool) (nn ne : Value) (Aw : Option Addr) (nw cw most : Nat) (W : List Nat) (w : World) (h : Rd w A 3 n (esCells E)) (hW : Rd w Aw 1 nw (wv W)) (hn : n ≤ 1000000) (hnw : nw ≤ 1000000) :
    Calls Tryz.prog 34 #[.agg #[.int .i64 N, .slice A n c], .int .i64 s, oVal back nn ne Aw nw cw most] w fun e w' => e = .returned (.int .i64 (dcF N s E W)) ∧ Grows w w' := by
  unfold oVal
  have HL := hide h.elen
  have HLW := hide hW.wlen
  have HRW := hide hW
  have C1 := hide (fun (W : World) (g : Grows w W) => r5Right N A n c E W (h.grows g) hn)
  clear h hW
  by_cases hr : rightF N E = 0
  · rw [hr] at C1
    cases hb : nodeB N s with
    | false =>
      have HD := hide (show dcF N s E W = 7 from by unfold dcF; rw [hr, hb]; simp)
      unfold nodeB at hb
      have hb1 := of_decide_eq_false hb
      clear hb hr
      by_cases hb3 : s < 0
      · clear hb1
        go_enter Tryz.func34, Tryz.ntmps34
        go_wp2_with (go_at_call 23; refine (C1.out _ GG).mono ?_; rintro e w' ⟨rfl, hg⟩; obtain ⟨x1, rfl⟩ := hg.later; clear hg)
        go_ret
        exact ⟨ret_int HD.out.symm, GG⟩
      · have hb2 : N ≤ s := by omega
        clear hb1
        go_enter Tryz.func34, Tryz.ntmps34
        go_wp2_with (go_at_call 23; refine (C1.out _ GG).mono ?_; rintro e w' ⟨rfl, hg⟩; obtain ⟨x1, rfl⟩ := hg.later; clear hg)
        go_ret
        exact ⟨ret_int HD.out.symm, GG⟩
    | true =>
      have hb1 := hb
      unfold nodeB at hb1
      obtain ⟨hb2, hb3⟩ := of_decide_eq_true hb1
      clear hb1
      by_cases hz : nw = 0
      · have HD := hide (show dcF N s E W = 0 from by
          have : W = [] := List.eq_nil_of_length_eq_zero (by rw [HLW.out, hz])
          unfold dcF; rw [hr, hb, this]; simp)
        subst hz
        clear hb hr
        go_enter Tryz.func34, Tryz.ntmps34
        go_wp2_with (go_at_call 23; refine (C1.out _ GG).mono ?_; rintro e w' ⟨rfl, hg⟩; obtain ⟨x1, rfl⟩ := hg.later; clear hg)
        go_ret
        exact ⟨ret_int HD.out.symm, GG⟩
      have hz2 : ((nw : Int) == 0) = false := beq_eq_false_iff_ne.2 (by omega)
      by_cases hl : nw = n
      · have HD := hide (show ∀ x : Int, (if W.any penB then 2 else 0) = x → dcF N s E W = x from fun x hx => by unfold dcF; rw [if_neg (show ¬ rightF N E ≠ 0 by omega), if_neg (by simp [hb]), HLW.out, HL.out, if_neg (by omega)]; exact hx)
        subst hl
        clear hb hr hz
        go_enter Tryz.func34, Tryz.ntmps34
        go_wp2_with (go_at_call 23; refine (C1.out _ GG).mono ?_; rintro e w' ⟨rfl, hg⟩; obtain ⟨x1, rfl⟩ := hg.later; clear hg)
        go_loopw [7] (fun i wr => ∃ k : Nat, k ≤ nw ∧ i = .int .i64 (k : Int) ∧ (∃ y : Later x1.now, wr = y.now) ∧ ∀ j, j < k → penB (gn W j) = false) (fun i _ => nw - (Go.RowKit.intOf i).toNat)
        case atStart => exact ⟨0, by omega, by go_num, ⟨⟨_, Grows.refl _⟩, rfl⟩, fun j h1 => by omega⟩
        case round =>
          obtain ⟨q, hq, rfl, ⟨y, rfl⟩, hall⟩ := hrel
          have HA := hide hall
          clear hall
          by_cases hend : nw ≤ q
          · go_wp2
            go_ret
            refine ⟨ret_int (HD.out 0 ?_).symm, GG⟩
            have hl := HLW.out
            have : W.any penB = false := by
              rw [List.any_eq_false]
              intro e he
              obtain ⟨j, hj, rfl⟩ := List.mem_iff_getElem.1 he
              have := HA.out j (by omega)
              simpa [gn, hj] using this
            rw [this]; rfl
          · obtain ⟨_, b, off, rfl, hc⟩ := HRW.out.wordsH (by omega)
            have hc1 := hc q (by omega)
            clear hc
            obtain ⟨u, hu⟩ : ∃ u, gn W q = u := ⟨_, rfl⟩
            rw [hu] at hc1
            have HU := hide hu
            clear hu
            by_cases hp : u < 1 ∨ 17592186044416 < u
            · have HB : Hid (W.any penB = true) := by
                refine List.any_eq_true.2 ⟨gn W q, ?_, ?_⟩
                · have : q < W.length := by rw [HLW.out]; omega
                  unfold gn; rw [List.getD_eq_getElem?_getD, List.getElem?_eq_getElem this]; exact List.getElem_mem this
                · rw [HU.out]; unfold penB; exact decide_eq_true hp
              rcases hp with hp | hp
              · go_wp2
                go_ret
                exact ⟨ret_int (HD.out 2 (by rw [HB.out]; rfl)).symm, GG⟩
              · have hp1 : ¬ u < 1 := by omega
                go_wp2
                go_ret
                exact ⟨ret_int (HD.out 2 (by rw [HB.out]; rfl)).symm, GG⟩
            · have hp1 : ¬ u < 1 := by omega
              have hp2 : ¬ 17592186044416 < u := by omega
              have HB : Hid (penB u = false) := decide_eq_false hp
              clear hp
              go_wp2
              go_roundw
              case measure => simp [Go.RowKit.intOf]; omega
              case rel =>
                refine ⟨q + 1, by omega, by go_num, ⟨_, rfl⟩, fun j h1 => ?_⟩
                by_cases hj : j = q
                · rw [hj, HU.out]; exact HB.out
                · exact HA.out j (by omega)
      · have HD := hide (show dcF N s E W = 1 from by unfold dcF; rw [if_neg (show ¬ rightF N E ≠ 0 by omega), if_neg (by simp [hb]), HLW.out, HL.out, if_pos ⟨by omega, hl⟩])
        have hl3 : ((nw : Int) == (n : Int)) = false := beq_eq_false_iff_ne.2 (by omega)
        clear hb hr hl hz
        go_enter Tryz.func34, Tryz.ntmps34
        go_wp2_with (go_at_call 23; refine (C1.out _ GG).mono ?_; rintro e w' ⟨rfl, hg⟩; obtain ⟨x1, rfl⟩ := hg.later; clear hg)
        go_ret
        exact ⟨ret_int HD.out.symm, GG⟩
  · have hr2 : (rightF N E == 0) = false := beq_eq_false_iff_ne.2 hr
    have HD := hide (show dcF N s E W = 1 from by unfold dcF; rw [if_pos hr])
    clear hr
    generalize rightF N E = r at *
    go_enter Tryz.func34, Tryz.ntmps34
    go_wp2_with (go_at_call 23; refine (C1.out _ GG).mono ?_; rintro e w' ⟨rfl, hg⟩; obtain ⟨x1, rfl⟩ := hg.later; clear hg)
    go_ret
    exact ⟨ret_int HD.out.symm, GG⟩
end Go.Proofs.YtkfobolbilhjbaaGreat

