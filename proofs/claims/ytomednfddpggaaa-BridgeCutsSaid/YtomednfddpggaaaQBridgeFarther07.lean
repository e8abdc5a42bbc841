/- Contracts: a heap in memory; an item laid, less, from a place up. -/
import Derived.Test.YtomednfddpggaaaQBridgeFarther06
import Derived.WalkMore
/- Contracts: a heap in memory; an item laid, less, from a place up. -/
namespace Go.Proofs.Ytomednfddpggaaa
open Go Go.RowKit
def itCells (p : Itm) : List Value := [.int .i64 (p.1 : Int), .int .u64 (p.2 : Int)]
def its (L : List Itm) : List Value := L.flatMap itCells
def itVal (p : Itm) : Value := .agg #[.int .i64 (p.1 : Int), .int .u64 (p.2 : Int)]
theorem its_len (L : List Itm) : (its L).length = L.length * 2 := flat_len itCells 2 (fun _ => rfl) L
theorem its_at (L : List Itm) (i j : Nat) (hi : i < L.length) (hj : j < 2) : (its L)[i * 2 + j]? = (itCells (gi2 L i))[j]? := flat_get itCells 2 (fun _ => rfl) (0, 0) L i j hi hj
theorem its_app (L : List Itm) (p : Itm) : its (L ++ [p]) = its L ++ itCells p := by simp [its]
theorem its_set (L : List Itm) (i : Nat) (p : Itm) (hi : i < L.length) : ((its L).set (i * 2) (.int .i64 (p.1 : Int))).set (i * 2 + 1) (.int .u64 (p.2 : Int)) = its (L.set i p) := by
  apply List.ext_getElem?
  intro k
  have hk : k = k / 2 * 2 + k % 2 := (Nat.div_add_mod' k 2).symm
  have hm : k % 2 < 2 := Nat.mod_lt _ (by omega)
  have hl := its_len L
  have hl2 := its_len (L.set i p)
  rw [List.length_set] at hl2
  rcases Nat.lt_or_ge (k / 2) L.length with hlt | hge
  · have h1 := its_at L (k / 2) (k % 2) hlt hm
    have h2 := its_at (L.set i p) (k / 2) (k % 2) (by simpa using hlt) hm
    rw [← hk] at h1 h2
    rw [h2, gi2_set _ _ _ _ hi]
    by_cases he : k / 2 = i
    · rw [if_pos he]
      rcases (by omega : k = i * 2 ∨ k = i * 2 + 1) with e | e
      · have e2 : k % 2 = 0 := by omega
        rw [List.getElem?_set_ne (by omega), e, List.getElem?_set_self (by omega)]
        rw [e] at e2
        rw [e2]; rfl
      · have e2 : k % 2 = 1 := by omega
        rw [e, List.getElem?_set_self (by simp; omega)]
        rw [e] at e2
        rw [e2]; rfl
    · rw [if_neg he, List.getElem?_set_ne (by omega), List.getElem?_set_ne (by omega), h1]
  · rw [List.getElem?_eq_none (by simp; omega), List.getElem?_eq_none (by omega)]
/-- A heap in the blocks of S. -/
def HpAt (w : World) (S : Nat → Prop) (b : Nat) (s : HS) : Prop :=
  ∃ A c G, Arr w b 186 [.slice A s.L.length c, .slice (some ⟨G, 0, none⟩) s.T.length s.T.length] ∧ Own w 0 204 2 A s.L.length c (its s.L) ∧ Row1 w G 3 1 s.T.length s.T.length (s.T.map (.int .i64)) ∧ S b ∧ S G ∧ ∀ p, A = some p → S p.block
theorem Own.touch {w w' : World} {B n c size : Nat} {e : TypeId} {A : Option Addr} {xs : List Value} {S : Nat → Prop} (h : Own w B e size A n c xs) (ht : Touch S w w') (hs : ∀ p, A = some p → ¬ S p.block) : Own w' B e size A n c xs := by
  refine ⟨h.1, ?_⟩
  rcases h.2 with h1 | ⟨g, cap, cur, h1, h2, h3, h4⟩
  · exact .inl h1
  · refine .inr ⟨g, cap, cur, h1, h2, ht.at (hs ⟨g, 0, none⟩ ?_) h3, h4⟩
    injection h1
theorem HpAt.touch {w w' : World} {S S' : Nat → Prop} {b : Nat} {s : HS} (h : HpAt w S b s) (ht : Touch S' w w') (hs : ∀ k, S k → ¬ S' k) : HpAt w' S b s := by
  obtain ⟨A, c, G, h1, h2, h3, h4, h5, h6⟩ := h
  exact ⟨A, c, G, h1.touch ht (hs _ h4), h2.touch ht (fun p hp => hs _ (h6 p hp)), h3.touch ht (hs _ h5), h4, h5, h6⟩
theorem HpAt.grow {w w' : World} {S : Nat → Prop} {b : Nat} {s : HS} (h : HpAt w S b s) (hg : Grows w w') : HpAt w' S b s := h.touch (hg.touch (fun _ => False)) (fun _ _ => id)
theorem HpAt.mono {w : World} {S S' : Nat → Prop} {b : Nat} {s : HS} (h : HpAt w S b s) (hs : ∀ k, S k → S' k) : HpAt w S' b s := by
  obtain ⟨A, c, G, h1, h2, h3, h4, h5, h6⟩ := h
  exact ⟨A, c, G, h1, h2, h3, hs _ h4, hs _ h5, fun p hp => hs _ (h6 p hp)⟩
/-- Where an item lies. -/
theorem Own.item {w : World} {B n c : Nat} {e : TypeId} {A : Option Addr} {L : List Itm} (h : Own w B e 2 A n c (its L)) {i : Nat} (hi : i < n) :
    ∃ g, A = some ⟨g, 0, none⟩ ∧ Mine w ⟨g, i * 2, none⟩ (.int .i64 ((gi2 L i).1 : Int)) ∧ Mine w ⟨g, i * 2 + 1, none⟩ (.int .u64 ((gi2 L i).2 : Int)) := by
  have hl := h.len
  rw [its_len] at hl
  obtain ⟨g, cur, rfl, _⟩ := h.at_ (by omega)
  have hr := (Own.row h).1
  refine ⟨g, rfl, hr.mine ?_, hr.mine ?_⟩
  · have := its_at L i 0 (by omega) (by omega)
    rw [Nat.add_zero] at this
    rw [this]; rfl
  · rw [its_at L i 1 (by omega) (by omega)]; rfl
set_option maxHeartbeats 1000000 in
theorem hpLess (x y : Itm) (w : World) : Calls Try.prog 155 #[itVal x, itVal y] w fun e w' => e = .returned (.bool (ahead x y)) ∧ Grows w w' := by
  obtain ⟨a, k⟩ := x
  obtain ⟨c, l⟩ := y
  unfold itVal
  dsimp only
  rcases Nat.lt_trichotomy k l with h | h | h
  · have HA : ahead (a, k) (c, l) = true := decide_eq_true (.inl h)
    rw [HA]
    have d1 : decide ((k : Int) < (l : Int)) = true := decide_eq_true (by omega)
    have d2 : decide (k < l) = true := decide_eq_true h
    clear h HA
    go_enter Try.func155, Try.ntmps155
    go_wp2
    go_ret
    exact ⟨rfl, (by repeat (first | exact Grows.refl _ | refine Grows.now ?_ _ | refine Grows.new ?_ _ | refine Grows.drewN ?_ _ | refine Grows.drew ?_ | assumption | (refine Grows.set ?_ (by first | omega | (simp; done) | (simp; omega)) _)))⟩
  · subst h
    have HA : ahead (a, k) (c, k) = decide (a < c) := by simp [ahead]
    rw [HA]
    have HD : Hid (decide ((a : Int) < (c : Int)) = decide (a < c)) := by simp [Hid]
    clear HA
    go_enter Try.func155, Try.ntmps155
    go_wp2
    all_goals go_ret
    all_goals refine ⟨?_, (by repeat (first | exact Grows.refl _ | refine Grows.now ?_ _ | refine Grows.new ?_ _ | refine Grows.drewN ?_ _ | refine Grows.drew ?_ | assumption | (refine Grows.set ?_ (by first | omega | (simp; done) | (simp; omega)) _)))⟩
    all_goals first | rfl | simp [HD.out]
  · have HA : ahead (a, k) (c, l) = false := decide_eq_false (by dsimp only; omega)
    rw [HA]
    have d1 : decide ((k : Int) < (l : Int)) = false := decide_eq_false (by omega)
    have d2 : decide (k < l) = false := decide_eq_false (by omega)
    have d3 : ((k : Int) == (l : Int)) = false := beq_eq_false_iff_ne.2 (by omega)
    have d4 : (k == l) = false := beq_eq_false_iff_ne.2 (by omega)
    have d5 : ¬ k = l := by omega
    clear h HA
    go_enter Try.func155, Try.ntmps155
    go_wp2
    go_ret
    exact ⟨rfl, (by repeat (first | exact Grows.refl _ | refine Grows.now ?_ _ | refine Grows.new ?_ _ | refine Grows.drewN ?_ _ | refine Grows.drew ?_ | assumption | (refine Grows.set ?_ (by first | omega | (simp; done) | (simp; omega)) _)))⟩
theorem HpAt.lay {w W : World} {b g c G : Nat} {s : HS} (i : Nat) (x : Itm) (h1 : Arr w b 186 [.slice (some ⟨g, 0, none⟩) s.L.length c, .slice (some ⟨G, 0, none⟩) s.T.length s.T.length]) (h2 : Own w 0 204 2 (some ⟨g, 0, none⟩) s.L.length c (its s.L))
    (h3 : Row1 w G 3 1 s.T.length s.T.length (s.T.map (.int .i64))) (hg : Grows w W) (hi : i < s.L.length) {S : Nat → Prop} (s1 : S b) (s2 : S G) (s3 : S g) :
    HpAt (((W.setCell ⟨g, i * 2, none⟩ (.int .i64 (x.1 : Int))).setCell ⟨g, i * 2 + 1, none⟩ (.int .u64 (x.2 : Int))).setCell ⟨G, x.1, none⟩ (.int .i64 (i : Int))) S b (s.lay i x) := by
  have hr := (Own.row h2).1
  have n1 := hr.ne h1 (by decide)
  have n2 := h3.ne h1 (by decide)
  have n3 := hr.ne2 h3 (by decide)
  have e := its_set s.L i x hi
  refine ⟨some ⟨g, 0, none⟩, c, G, ?_, ?_, ?_, s1, s2, fun p hp => by injection hp with hp; subst hp; exact s3⟩
  · rw [(HS.lay_len s i x).1, (HS.lay_len s i x).2]
    exact (((h1.grow hg).other n1 _).other n1 _).other n2 _
  · rw [(HS.lay_len s i x).1]
    show Own _ _ _ _ _ _ _ (its (s.L.set i x))
    rw [← e]
    exact ((((hr.grow hg).set _ _).set _ _).other (Ne.symm n3) _).own (Nat.zero_le _)
  · rw [(HS.lay_len s i x).2]
    have : (s.lay i x).T.map (Value.int .i64) = (s.T.map (Value.int .i64)).set x.1 (.int .i64 (i : Int)) := by simp [HS.lay, List.map_set]
    rw [this]
    exact (((h3.grow hg).other n3 _).other n3 _).set _ _
set_option maxRecDepth 20000 in
set_option maxHeartbeats 2000000 in
theorem hpLay (b : Nat) (s : HS) (i : Nat) (x : Itm) (S : Nat → Prop) (w : World) (h : HpAt w S b s) (hi : i < s.L.length) (hx : x.1 < s.T.length) :
    Calls Try.prog 156 #[.pointer (some ⟨b, 0, none⟩), .int .i64 (i : Int), itVal x] w fun e w' => e = .returned (.tuple #[]) ∧ HpAt w' S b (s.lay i x) ∧ Touch S w w' := by
  obtain ⟨A, c, G, h1, h2, h3, h4, h5, h6⟩ := h
  obtain ⟨g, rfl, m1, m2⟩ := h2.item hi
  have m3 := h3.int hx
  have h7 := h6 _ rfl
  have H2 := hide h2
  have H3 := hide h3
  have HR := hide h1
  have hr := (Own.row h2).1
  have n1 : ¬ g = b := hr.ne h1 (by decide)
  have n2 : ¬ G = b := h3.ne h1 (by decide)
  have n3 : ¬ g = G := hr.ne2 h3 (by decide)
  have n4 : ¬ g = w.heap.size := by have := hr.lt; omega
  clear h2 h3 h6 hr
  unfold itVal
  go_enter Try.func156, Try.ntmps156
  go_wp2_with fail
  go_region_with fail
  all_goals go_wp2_with fail
  all_goals go_end0
  all_goals exact ⟨rfl, (HpAt.lay i x HR.out H2.out H3.out ((Grows.refl w).new _) hi h4 h5 h7).grow (Grows.refl _).drew, ((((((Grows.refl w).new _).touch S).set (.inl h7) _).set (.inl h7) _).set (.inl h5) _).drew⟩
end Go.Proofs.Ytomednfddpggaaa

/- Contracts: sets of numbers. -/
namespace Go.Proofs.Ytomednfddpggaaa
open Go Go.RowKit
/-- Words of bits in memory. -/
def wv (W : List Nat) : List Value := W.map fun (x : Nat) => Value.int .u64 (x : Int)
theorem wv_len (W : List Nat) : (wv W).length = W.length := by simp [wv]
theorem wv_at {W : List Nat} {j : Nat} (h : j < W.length) : (wv W)[j]? = some (.int .u64 (gn W j : Int)) := by simp [wv, gn, h]
theorem wv_set (W : List Nat) (j x : Nat) : (wv W).set j (.int .u64 (x : Int)) = wv (W.set j x) := by simp [wv, List.map_set]
structure BtAt (w : World) (b g n : Nat) (W : List Nat) : Prop where
  row : Arr w b 188 [.int .i64 (n : Int), .slice (some ⟨g, 0, none⟩) W.length W.length]
  words : Row1 w g 38 1 W.length W.length (wv W)
  room : n ≤ W.length * 64
  small : ∀ j, j < W.length → gn W j < 18446744073709551616
def hasW (W : List Nat) (i : Nat) : Bool := (gn W (i / 64)).testBit (i % 64)
theorem bitsSize (b n : Nat) (u : Value) (w : World) (h : Arr w b 188 [.int .i64 (n : Int), u]) : Calls Try.prog 134 #[.pointer (some ⟨b, 0, none⟩)] w fun e w' => e = .returned (.int .i64 (n : Int)) ∧ w = w' := by
  go_enter Try.func134, Try.ntmps134
  go_wp2
  go_ret
  exact ⟨rfl, rfl⟩
set_option maxHeartbeats 1000000 in
theorem bitsHasIn (b g n : Nat) (W : List Nat) (i : Nat) (w : World) (h : BtAt w b g n W) (hi : i < n) (hn : n ≤ 65536) : Calls Try.prog 110 #[.pointer (some ⟨b, 0, none⟩), .int .i64 (i : Int)] w fun e w' => e = .returned (.bool (hasW W i)) ∧ w = w' := by
  obtain ⟨q, hq⟩ : ∃ q, i / 64 = q := ⟨_, rfl⟩
  obtain ⟨r, hr⟩ : ∃ r, i % 64 = r := ⟨_, rfl⟩
  have hqi : (i : Int) / 64 = (q : Int) := by omega
  have hri : (i : Int) % 64 = (r : Int) := by omega
  have hrb : r < 64 := by omega
  have hql : q < W.length := by have := h.room; omega
  have m0 : Mine w ⟨g, q, none⟩ (.int .u64 (gn W q : Int)) := h.words.mine (wv_at hql)
  have hx := h.small q hql
  have h1 := h.row
  have C := hide (bitsSize b n _ w h1)
  have HH : Hid (hasW W i = (gn W q).testBit r) := by unfold hasW; rw [hq, hr]; exact rfl
  clear h hq hr
  generalize gn W q = x at *
  go_enter Try.func110, Try.ntmps110
  go_wp2_with (go_at_call 134; refine (C.out).mono ?_; rintro e w' ⟨rfl, rfl⟩)
  go_ret
  refine ⟨ret_bool ?_, rfl⟩
  rw [HH.out, Nat.testBit_eq_decide_div_mod_eq]
  have e : (x : Int) / 2 ^ r = ((x / 2 ^ r : Nat) : Int) := by simp
  have hlt : x / 2 ^ r ≤ x := Nat.div_le_self _ _
  show (bits BinOp.and IntKind.u64 ((x : Int) / 2 ^ r) 1 == 1) = _
  rw [e]
  generalize x / 2 ^ r = y at *
  rw [and_one_u64 _ (by omega) (by omega)]
  apply bool_ext
  simp
  omega
/-- A number is put among the bits. -/
theorem hasW_set (W : List Nat) (i j : Nat) (hi : i / 64 < W.length) : hasW (W.set (i / 64) (gn W (i / 64) ||| 2 ^ (i % 64))) j = (hasW W j || decide (j = i)) := by
  unfold hasW
  rw [gn_set _ _ _ _ hi]
  by_cases h : j / 64 = i / 64
  · rw [if_pos h, Nat.testBit_or, Nat.testBit_two_pow, h]
    congr 1
    apply bool_ext
    simp
    omega
  · rw [if_neg h]
    have : ¬ j = i := fun e => h (by rw [e])
    simp [this]
theorem or_small {x r : Nat} (hx : x < 18446744073709551616) (hr : r < 64) : x ||| 2 ^ r < 18446744073709551616 := by
  have h1 : (2 : Nat) ^ r < 2 ^ 64 := Nat.pow_lt_pow_right (by omega) hr
  have := Nat.or_lt_two_pow (x := x) (y := 2 ^ r) (n := 64) hx h1
  exact this
/-- What 'add' leaves. -/
def GiveAdd (w : World) (b g n : Nat) (W : List Nat) (i : Int) (e : Ending) (w' : World) : Prop :=
  ∃ r W', e = .returned (.bool r) ∧ BtAt w' b g n W' ∧ (∀ j, j < n → hasW W' j = (hasW W j || decide ((j : Int) = i))) ∧ Touch (fun k => k = g) w w'
theorem BtAt.grow {w w' : World} {b g n : Nat} {W : List Nat} (h : BtAt w b g n W) (hg : Grows w w') : BtAt w' b g n W := ⟨h.row.grow hg, h.words.grow hg, h.room, h.small⟩
theorem GiveAdd.same {w w' : World} {b g n : Nat} {W : List Nat} {i : Int} {r : Bool} (h : BtAt w b g n W) (hg : Grows w w') (hn : ∀ j, j < n → (j : Int) = i → hasW W j = true) : GiveAdd w b g n W i (.returned (.bool r)) w' :=
  ⟨r, W, rfl, h.grow hg, fun j hj => by
    by_cases e : (j : Int) = i
    · rw [hn j hj e]; rfl
    · simp [e], hg.touch _⟩
theorem BtAt.put {w W' : World} {b g n : Nat} {W : List Nat} {i : Nat} (h : BtAt w b g n W) (hg : Grows w W') (hi : i < n) : GiveAdd w b g n W i (.returned (.bool true)) (W'.setCell ⟨g, i / 64, none⟩ (.int .u64 ((gn W (i / 64) ||| 2 ^ (i % 64) : Nat) : Int))) := by
  have hl : i / 64 < W.length := by have := h.room; omega
  refine ⟨true, W.set (i / 64) (gn W (i / 64) ||| 2 ^ (i % 64)), rfl, ⟨?_, ?_, by simpa using h.room, fun j hj => ?_⟩, fun j _ => ?_, (hg.touch (fun k => k = g)).set (p := ⟨g, i / 64, none⟩) (.inl rfl) _⟩
  · rw [List.length_set]; exact (h.row.grow hg).other (h.words.ne h.row (by decide)) _
  · rw [List.length_set, ← wv_set]; exact (h.words.grow hg).set _ _
  · rw [gn_set _ _ _ _ hl]
    split
    · exact or_small (h.small _ hl) (by omega)
    · exact h.small j (by simpa using hj)
  · rw [hasW_set _ _ _ hl]
    congr 1
    apply bool_ext
    simp
    omega
set_option maxHeartbeats 2000000 in
theorem bitsAdd (b g n : Nat) (W : List Nat) (i : Int) (w : World) (h : BtAt w b g n W) (hn : n ≤ 65536) : Calls Try.prog 133 #[.pointer (some ⟨b, 0, none⟩), .int .i64 i] w (GiveAdd w b g n W i) := by
  have h1 := h.row
  have C := hide (bitsSize b n _ w h1)
  have HB := hide h
  rcases Int.lt_or_le i 0 with h0 | h0
  · have hd : decide (i < 0) = true := decide_eq_true h0
    clear h
    go_enter Try.func133, Try.ntmps133
    go_wp2_with fail
    go_ret
    exact GiveAdd.same HB.out (by repeat (first | exact Grows.refl _ | refine Grows.now ?_ _ | refine Grows.new ?_ _ | refine Grows.drewN ?_ _ | refine Grows.drew ?_ | assumption | (refine Grows.set ?_ (by first | omega | (simp; done) | (simp; omega)) _))) (fun j _ e => by omega)
  · obtain ⟨k, rfl⟩ : ∃ k : Nat, i = (k : Int) := ⟨i.toNat, by omega⟩
    rcases Nat.lt_or_ge k n with hk | hk
    · have hd : decide ((n : Int) ≤ (k : Int)) = false := decide_eq_false (by omega)
      have hd2 : decide (n ≤ k) = false := decide_eq_false (by omega)
      have CH := hide (bitsHasIn b g n W k w h hk hn)
      obtain ⟨q, hq⟩ : ∃ q, k / 64 = q := ⟨_, rfl⟩
      obtain ⟨r, hr⟩ : ∃ r, k % 64 = r := ⟨_, rfl⟩
      have hqi : (k : Int) / 64 = (q : Int) := by omega
      have hri : (k : Int) % 64 = (r : Int) := by omega
      have hrb : r < 64 := by omega
      have hql : q < W.length := by have := h.room; omega
      have m0 : Mine w ⟨g, q, none⟩ (.int .u64 (gn W q : Int)) := h.words.mine (wv_at hql)
      have hx := h.small q hql
      have HP := hide (fun (W' : World) (hg : Grows w W') => h.put hg hk)
      rw [hq, hr] at HP
      have HHH := hide (rfl : hasW W k = hasW W k)
      clear h hq hr
      cases hh : hasW W k with
      | true =>
        rw [hh] at CH
        have HH := hide hh
        clear hh HHH
        go_enter Try.func133, Try.ntmps133
        go_wp2_with (first
          | (go_at_call 134; refine (C.out).mono ?_; rintro e w' ⟨rfl, rfl⟩)
          | (go_at_call 110; refine (CH.out).mono ?_; rintro e w' ⟨rfl, rfl⟩))
        go_ret
        exact GiveAdd.same HB.out (by repeat (first | exact Grows.refl _ | refine Grows.now ?_ _ | refine Grows.new ?_ _ | refine Grows.drewN ?_ _ | refine Grows.drew ?_ | assumption | (refine Grows.set ?_ (by first | omega | (simp; done) | (simp; omega)) _))) (fun j _ e => by
          have e2 : j = k := by omega
          rw [e2]; exact HH.out)
      | false =>
        rw [hh] at CH
        clear hh HHH
        generalize gn W q = u at *
        have htm : (k : Int).tmod 64 = (r : Int) := by rw [Int.tmod_eq_emod_of_nonneg (by omega)]; exact hri
        have HO : Hid (bits BinOp.or IntKind.u64 (u : Int) (IntKind.u64.wrap (2 ^ r)) = ((u ||| 2 ^ r : Nat) : Int)) := by
          have hpb : 2 ^ r < 2 ^ 64 := Nat.pow_lt_pow_right (by omega) hrb
          have hp : (2 : Int) ^ r = ((2 ^ r : Nat) : Int) := by simp
          show _ = _
          rw [hp]
          generalize 2 ^ r = p at *
          rw [show IntKind.u64.wrap (p : Int) = (p : Int) from IntWalk.u64_in _ (by omega)]
          exact u64_or_nat u p hx hpb
        go_enter Try.func133, Try.ntmps133
        go_wp2_with (first
          | (go_at_call 134; refine (C.out).mono ?_; rintro e w' ⟨rfl, rfl⟩)
          | (go_at_call 110; refine (CH.out).mono ?_; rintro e w' ⟨rfl, rfl⟩))
        (refine wp_region_tail1 13 (by kernel_rfl) (by kernel_rfl) ?_; simp only [List.take_succ_cons, List.take_zero, List.drop_succ_cons, List.drop_zero]; (repeat' (first | (refine gLex_val0 rfl (by kernel_rfl) (fun K hK => ?_); (go_simp; (try (simp only [↓IntWalk.iteOmega]; try go_simp)); (try simp (disch := omega) only [IntWalk.i64_in]); (try simp (disch := omega) only [IntWalk.u64_in]); first | (refine hK _ ?_; clear hK K) | (apply Exists.intro; refine ⟨fun x => ?_, hK _ ?_⟩; (first | fail); clear hK K))) | (refine gLex_undef rfl rfl rfl (by kernel_rfl) (fun K hK => ?_); go_simp; refine hK _ ?_; clear hK K) | (refine gLex_ask rfl rfl rfl ?_; first | (apply gAsk_yes; kernel_rfl; intro K hK; (go_simp; (try (simp only [↓IntWalk.iteOmega]; try go_simp)); (try simp (disch := omega) only [IntWalk.i64_in]); (try simp (disch := omega) only [IntWalk.u64_in]); first | (refine hK _ ?_; clear hK K) | (apply Exists.intro; refine ⟨fun x => ?_, hK _ ?_⟩; (first | fail); clear hK K))) | ((first | apply gAsk_no1 | apply gAsk_no2); kernel_rfl; intro K hK; simp [go_sem]; refine hK _ ?_; clear hK K)))); refine gLex_endT (fun x => ?_))
        go_wp2_with fail
        rw [HO.out]
        go_ret
        exact HP.out _ (by repeat (first | exact Grows.refl _ | refine Grows.now ?_ _ | refine Grows.new ?_ _ | refine Grows.drewN ?_ _ | refine Grows.drew ?_ | assumption | (refine Grows.set ?_ (by first | omega | (simp; done) | (simp; omega)) _)))
    · have hd : decide ((n : Int) ≤ (k : Int)) = true := decide_eq_true (by omega)
      have hd2 : decide (n ≤ k) = true := decide_eq_true hk
      clear h
      go_enter Try.func133, Try.ntmps133
      go_wp2_with (go_at_call 134; refine (C.out).mono ?_; rintro e w' ⟨rfl, rfl⟩)
      go_ret
      exact GiveAdd.same HB.out (by repeat (first | exact Grows.refl _ | refine Grows.now ?_ _ | refine Grows.new ?_ _ | refine Grows.drewN ?_ _ | refine Grows.drew ?_ | assumption | (refine Grows.set ?_ (by first | omega | (simp; done) | (simp; omega)) _))) (fun j _ e => by omega)
end Go.Proofs.Ytomednfddpggaaa

/- Contract: from a place up. -/
namespace Go.Proofs.Ytomednfddpggaaa
open Go Go.RowKit
def RiseAt (w : World) (S : Nat → Prop) (b N bx : Nat) (s : HS) (i : Nat) (x : Itm) (k : Nat) (wr : World) : Prop :=
  ∃ s' : HS, HpAt wr S b s' ∧ s'.In N ∧ s'.L.length = s.L.length ∧ k < s.L.length ∧ s'.rise k x = s.rise i x ∧ Touch S w wr ∧ Arr wr bx 204 [.int .i64 (x.1 : Int), .int .u64 (x.2 : Int)]
set_option maxRecDepth 20000 in
set_option maxHeartbeats 4000000 in
theorem hpRise (b N : Nat) (s : HS) (i : Nat) (x : Itm) (S : Nat → Prop) (w : World) (h : HpAt w S b s) (hs : ∀ k, S k → k < w.heap.size) (hin : s.In N) (hi : i < s.L.length) (hx : x.1 < N) (hl : s.L.length ≤ 100000) :
    Calls Try.prog 150 #[.pointer (some ⟨b, 0, none⟩), .int .i64 (i : Int), itVal x] w fun e w' => e = .returned (.tuple #[]) ∧ HpAt w' S b (s.rise i x) ∧ Touch S w w' := by
  have hbx : ¬ S w.heap.size := fun e => by have := hs _ e; omega
  have H0 : Hid (RiseAt w S b N w.heap.size s i x i (w.alloc (.cells #[.int .i64 (x.1 : Int), .int .u64 (x.2 : Int)] 204))) :=
    ⟨s, h.grow ((Grows.refl w).new _), hin, rfl, hi, rfl, ((Grows.refl w).new _).touch S, Arr.make _ _ _⟩
  clear h hs hin
  unfold itVal
  go_enter Try.func150, Try.ntmps150
  go_wp2_with fail
  go_step3
  go_wp2_with fail
  go_step3
  go_wp2_with fail
  go_loopw [1] (fun v wr => ∃ k : Nat, v = .int .i64 (k : Int) ∧ RiseAt w S b N w.heap.size s i x k wr) (fun v _ => (Go.RowKit.intOf v).toNat)
  case atStart => exact ⟨i, rfl, H0.out⟩
  case round =>
    obtain ⟨k, rfl, s', h1, h2, h3, h4, h5, h6, h7⟩ := hrel
    clear H0
    have hk' : k < s'.L.length := by omega
    have HLX := hide (fun (W : World) (hg : Grows wr W) => hpLay b s' k x S W (h1.grow hg) hk' (by rw [h2.1]; exact hx))
    by_cases hk0 : k = 0
    · subst hk0
      have HE : Hid (s'.lay 0 x = s.rise i x) := by rw [← h5, HS.rise, dif_neg (fun e => absurd e.1 (by omega))]; rfl
      have H6 := hide h6
      clear h1 h2 h3 h5 h6
      go_wp2_with (go_at_call 156; refine (HLX.out _ (by repeat (first | exact Grows.refl _ | refine Grows.now ?_ _ | refine Grows.new ?_ _ | refine Grows.drewN ?_ _ | refine Grows.drew ?_ | assumption | (refine Grows.set ?_ (by first | omega | (simp; done) | (simp; omega)) _)))).mono ?_; rintro e w' ⟨rfl, hp, ht⟩; have HP := hide hp; have HT := hide ht; clear hp ht)
      rw [Exit.noGoto_normal]
      go_end0
      exact ⟨rfl, HE.out ▸ HP.out, H6.out.trans HT.out⟩
    · obtain ⟨u, rfl⟩ : ∃ u, k = u + 1 := ⟨k - 1, by omega⟩
      obtain ⟨p, hp⟩ : ∃ p, u / 2 = p := ⟨_, rfl⟩
      have hq : (u : Int) / 2 = (p : Int) := by omega
      have hpl : p < s'.L.length := by omega
      have hpu : p ≤ u := by omega
      obtain ⟨A, c, G, r1, r2, r3, r4, r5, r6⟩ := h1
      obtain ⟨g, rfl, m1, m2⟩ := r2.item hpl
      have hT := h2.1
      have H2 := hide h2
      have H6 := hide h6
      have HLU := hide (fun (W : World) (hg : Grows wr W) => hpLay b s' (u + 1) (gi2 s'.L p) S W ((show HpAt wr S b s' from ⟨_, c, G, r1, r2, r3, r4, r5, r6⟩).grow hg) hk' (by rw [hT]; exact h2.2 p hpl))
      have HLE := hide (fun (W : World) => hpLess x (gi2 s'.L p) W)
      have HR : Hid (s'.rise (u + 1) x = if ahead x (gi2 s'.L p) = true then (s'.lay (u + 1) (gi2 s'.L p)).rise p x else s'.lay (u + 1) x) := by
        show _ = _
        rw [HS.rise, Nat.add_sub_cancel, hp]
        by_cases ha : ahead x (gi2 s'.L p) = true
        · rw [dif_pos ⟨by omega, ha⟩, if_pos ha]
        · rw [dif_neg (fun e => ha e.2), if_neg ha]
      have H5 := hide h5
      have HP0 := hide hp
      clear h2 h5 h6 r2 r3 r6 hT hp
      cases ha : ahead x (gi2 s'.L p) with
      | true =>
        rw [ha] at HLE HR
        generalize hgi : gi2 s'.L p = y at *
        have HGI := hide hgi
        clear ha hgi
        unfold itVal at HLU
        obtain ⟨y1, y2⟩ := y
        dsimp only at *
        rw [Int.natCast_add, Int.natCast_one] at HLU
        go_wp2_with fail
        ((first | refine wp_region_gen2 (by kernel_rfl) (by kernel_rfl) ?_ | refine wp_region_gen (by kernel_rfl) (by kernel_rfl) ?_); (repeat' (first | (refine gLex_val0 rfl (by kernel_rfl) (fun K hK => ?_); (go_simp; (try (simp only [↓IntWalk.iteOmega]; try go_simp)); (try simp (disch := omega) only [IntWalk.i64_in]); (try simp (disch := omega) only [IntWalk.u64_in]); first | (refine hK _ ?_; clear hK K) | (apply Exists.intro; refine ⟨fun x => ?_, hK _ ?_⟩; (first | (exact HLE.out _)); clear hK K))) | (refine gLex_undef rfl rfl rfl (by kernel_rfl) (fun K hK => ?_); go_simp; refine hK _ ?_; clear hK K) | (refine gLex_ask rfl rfl rfl ?_; first | (apply gAsk_yes; kernel_rfl; intro K hK; (go_simp; (try (simp only [↓IntWalk.iteOmega]; try go_simp)); (try simp (disch := omega) only [IntWalk.i64_in]); (try simp (disch := omega) only [IntWalk.u64_in]); first | (refine hK _ ?_; clear hK K) | (apply Exists.intro; refine ⟨fun x => ?_, hK _ ?_⟩; (first | (exact HLE.out _)); clear hK K))) | ((first | apply gAsk_no1 | apply gAsk_no2); kernel_rfl; intro K hK; simp [go_sem]; refine hK _ ?_; clear hK K) | (apply gAsk_part; kernel_rfl; all_goals (intro h K hK; (try simp only [Bool.not_true] at h); (try simp only [Bool.not_false] at h); (try simp only [decide_eq_true_eq] at h); (try simp only [decide_eq_false_iff_not] at h); first | (exfalso; first | contradiction | omega) | (go_simp; (try (simp only [↓IntWalk.iteOmega]; try go_simp)); (try simp (disch := omega) only [IntWalk.i64_in]); (try simp (disch := omega) only [IntWalk.u64_in]); first | (refine hK _ ?_; clear hK K) | (apply Exists.intro; refine ⟨fun x => ?_, hK _ ?_⟩; (first | (exact HLE.out _)); clear hK K))))))); all_goals ((apply gLex_end); intro z))
        go_wp2_with (go_at_call 156; refine (HLU.out _ (by repeat (first | exact Grows.refl _ | refine Grows.now ?_ _ | refine Grows.new ?_ _ | refine Grows.drewN ?_ _ | refine Grows.drew ?_ | assumption | (refine Grows.set ?_ (by first | omega | (simp; done) | (simp; omega)) _)))).mono ?_; rintro e w' ⟨rfl, hp, ht⟩; have HPP := hide hp; have HTT := hide ht; clear hp ht)
        have hgz : Grows wr z.now := (by repeat (first | exact Grows.refl _ | refine Grows.now ?_ _ | refine Grows.new ?_ _ | refine Grows.drewN ?_ _ | refine Grows.drew ?_ | assumption | (refine Grows.set ?_ (by first | omega | (simp; done) | (simp; omega)) _)))
        go_roundw
        case rel =>
          refine ⟨p, by go_num, s'.lay (u + 1) (y1, y2), HPP.out, H2.out.lay _ _ (by have := HGI.out; have h := H2.out.2 p hpl; rw [this] at h; exact h), by rw [(HS.lay_len _ _ _).1]; exact h3, by omega, ?_, (H6.out.grows hgz).trans HTT.out, ?_⟩
          · rw [← H5.out, HR.out]; rfl
          · exact (h7.grow hgz).touch HTT.out hbx
        case measure => simp [Go.RowKit.intOf]; omega
      | false =>
        rw [ha] at HLE HR
        clear ha HLU
        generalize gi2 s'.L p = y at *
        unfold itVal at HLE
        obtain ⟨y1, y2⟩ := y
        dsimp only at *
        rw [Int.natCast_add, Int.natCast_one] at HLX
        go_wp2_with fail
        ((first | refine wp_region_gen2 (by kernel_rfl) (by kernel_rfl) ?_ | refine wp_region_gen (by kernel_rfl) (by kernel_rfl) ?_); (repeat' (first | (refine gLex_val0 rfl (by kernel_rfl) (fun K hK => ?_); (go_simp; (try (simp only [↓IntWalk.iteOmega]; try go_simp)); (try simp (disch := omega) only [IntWalk.i64_in]); (try simp (disch := omega) only [IntWalk.u64_in]); first | (refine hK _ ?_; clear hK K) | (apply Exists.intro; refine ⟨fun x => ?_, hK _ ?_⟩; (first | (exact HLE.out _)); clear hK K))) | (refine gLex_undef rfl rfl rfl (by kernel_rfl) (fun K hK => ?_); go_simp; refine hK _ ?_; clear hK K) | (refine gLex_ask rfl rfl rfl ?_; first | (apply gAsk_yes; kernel_rfl; intro K hK; (go_simp; (try (simp only [↓IntWalk.iteOmega]; try go_simp)); (try simp (disch := omega) only [IntWalk.i64_in]); (try simp (disch := omega) only [IntWalk.u64_in]); first | (refine hK _ ?_; clear hK K) | (apply Exists.intro; refine ⟨fun x => ?_, hK _ ?_⟩; (first | (exact HLE.out _)); clear hK K))) | ((first | apply gAsk_no1 | apply gAsk_no2); kernel_rfl; intro K hK; simp [go_sem]; refine hK _ ?_; clear hK K) | (apply gAsk_part; kernel_rfl; all_goals (intro h K hK; (try simp only [Bool.not_true] at h); (try simp only [Bool.not_false] at h); (try simp only [decide_eq_true_eq] at h); (try simp only [decide_eq_false_iff_not] at h); first | (exfalso; first | contradiction | omega) | (go_simp; (try (simp only [↓IntWalk.iteOmega]; try go_simp)); (try simp (disch := omega) only [IntWalk.i64_in]); (try simp (disch := omega) only [IntWalk.u64_in]); first | (refine hK _ ?_; clear hK K) | (apply Exists.intro; refine ⟨fun x => ?_, hK _ ?_⟩; (first | (exact HLE.out _)); clear hK K))))))); all_goals ((apply gLex_end); intro z))
        go_wp2_with (go_at_call 156; refine (HLX.out _ (by repeat (first | exact Grows.refl _ | refine Grows.now ?_ _ | refine Grows.new ?_ _ | refine Grows.drewN ?_ _ | refine Grows.drew ?_ | assumption | (refine Grows.set ?_ (by first | omega | (simp; done) | (simp; omega)) _)))).mono ?_; rintro e w' ⟨rfl, hp, ht⟩; have HPP := hide hp; have HTT := hide ht; clear hp ht)
        have hgz : Grows wr z.now := (by repeat (first | exact Grows.refl _ | refine Grows.now ?_ _ | refine Grows.new ?_ _ | refine Grows.drewN ?_ _ | refine Grows.drew ?_ | assumption | (refine Grows.set ?_ (by first | omega | (simp; done) | (simp; omega)) _)))
        have HE : Hid (s'.lay (u + 1) x = s.rise i x) := by rw [← H5.out, HR.out]; rfl
        rw [Exit.noGoto_normal]
        go_end0
        exact ⟨rfl, HE.out ▸ HPP.out, (H6.out.grows hgz).trans HTT.out⟩
end Go.Proofs.Ytomednfddpggaaa
