/- Contracts: a heap in memory; an item laid, less, from a place up. -/
import Derived.Test.YtgplpgldhoelcaaQChangeAgain02
import Derived.WalkMore
import Derived.Deep.DeepCutAuto
import Derived.Test.YtgplpgldhoelcaaQChangeAgain01
namespace Go.Proofs.Ytgplpgldhoelcaa
open Go Go.RowKit
def itCells (p : Itm) : List Value := [.int .i64 (p.1 : Int), .int .u64 (p.2 : Int)]
def its (L : List Itm) : List Value := L.flatMap itCells
def itVal (p : Itm) : Value := .agg #[.int .i64 (p.1 : Int), .int .u64 (p.2 : Int)]
theorem its_len (L : List Itm) : (its L).length = L.length * 2 := flat_len itCells 2 (fun _ => rfl) L
theorem its_at (L : List Itm) (i j : Nat) (hi : i < L.length) (hj : j < 2) : (its L)[i * 2 + j]? = (itCells (gi2 L i))[j]? := flat_get itCells 2 (fun _ => rfl) (0, 0) L i j hi hj
theorem its_app (L : List Itm) (p : Itm) : its (L ++ [p]) = its L ++ itCells p := by simp [its]
theorem its_set (L : List Itm) (i : Nat) (p : Itm) (hi : i < L.length) : ((its L).set (i * 2) (.int .i64 (p.1 : Int))).set (i * 2 + 1) (.int .u64 (p.2 : Int)) = its (L.set i p) := by
  apply List.ext_getElem?
  intro k
  have hk : k = k / 2 * 2 + k % 2 := (Nat.div_add_mod' k 2).symm
  have hm : k % 2 < 2 := Nat.mod_lt _ (by omega)
  have hl := its_len L
  have hl2 := its_len (L.set i p)
  rw [List.length_set] at hl2
  rcases Nat.lt_or_ge (k / 2) L.length with hlt | hge
  · have h1 := its_at L (k / 2) (k % 2) hlt hm
    have h2 := its_at (L.set i p) (k / 2) (k % 2) (by simpa using hlt) hm
    rw [← hk] at h1 h2
    rw [h2, gi2_set _ _ _ _ hi]
    by_cases he : k / 2 = i
    · rw [if_pos he]
      rcases (by omega : k = i * 2 ∨ k = i * 2 + 1) with e | e
      · have e2 : k % 2 = 0 := by omega
        rw [List.getElem?_set_ne (by omega), e, List.getElem?_set_self (by omega)]
        rw [e] at e2
        rw [e2]; rfl
      · have e2 : k % 2 = 1 := by omega
        rw [e, List.getElem?_set_self (by simp; omega)]
        rw [e] at e2
        rw [e2]; rfl
    · rw [if_neg he, List.getElem?_set_ne (by omega), List.getElem?_set_ne (by omega), h1]
  · rw [List.getElem?_eq_none (by simp; omega), List.getElem?_eq_none (by omega)]
def HpAt (w : World) (S : Nat → Prop) (b : Nat) (s : HS) : Prop :=
  ∃ A c G, Arr w b 221 [.slice A s.L.length c, .slice (some ⟨G, 0, none⟩) s.T.length s.T.length] ∧ Own w 0 223 2 A s.L.length c (its s.L) ∧ Row1 w G 3 1 s.T.length s.T.length (s.T.map (.int .i64)) ∧ S b ∧ S G ∧ ∀ p, A = some p → S p.block
theorem Own.touch {w w' : World} {B n c size : Nat} {e : TypeId} {A : Option Addr} {xs : List Value} {S : Nat → Prop} (h : Own w B e size A n c xs) (ht : Touch S w w') (hs : ∀ p, A = some p → ¬ S p.block) : Own w' B e size A n c xs := by
  refine ⟨h.1, ?_⟩
  rcases h.2 with h1 | ⟨g, cap, cur, h1, h2, h3, h4⟩
  · exact .inl h1
  · refine .inr ⟨g, cap, cur, h1, h2, ht.at (hs ⟨g, 0, none⟩ ?_) h3, h4⟩
    injection h1
theorem HpAt.touch {w w' : World} {S S' : Nat → Prop} {b : Nat} {s : HS} (h : HpAt w S b s) (ht : Touch S' w w') (hs : ∀ k, S k → ¬ S' k) : HpAt w' S b s := by
  obtain ⟨A, c, G, h1, h2, h3, h4, h5, h6⟩ := h
  exact ⟨A, c, G, h1.touch ht (hs _ h4), h2.touch ht (fun p hp => hs _ (h6 p hp)), h3.touch ht (hs _ h5), h4, h5, h6⟩
theorem HpAt.grow {w w' : World} {S : Nat → Prop} {b : Nat} {s : HS} (h : HpAt w S b s) (hg : Grows w w') : HpAt w' S b s := h.touch (hg.touch (fun _ => False)) (fun _ _ => id)
theorem HpAt.mono {w : World} {S S' : Nat → Prop} {b : Nat} {s : HS} (h : HpAt w S b s) (hs : ∀ k, S k → S' k) : HpAt w S' b s := by
  obtain ⟨A, c, G, h1, h2, h3, h4, h5, h6⟩ := h
  exact ⟨A, c, G, h1, h2, h3, hs _ h4, hs _ h5, fun p hp => hs _ (h6 p hp)⟩
theorem Own.item {w : World} {B n c : Nat} {e : TypeId} {A : Option Addr} {L : List Itm} (h : Own w B e 2 A n c (its L)) {i : Nat} (hi : i < n) :
    ∃ g, A = some ⟨g, 0, none⟩ ∧ Mine w ⟨g, i * 2, none⟩ (.int .i64 ((gi2 L i).1 : Int)) ∧ Mine w ⟨g, i * 2 + 1, none⟩ (.int .u64 ((gi2 L i).2 : Int)) := by
  have hl := h.len
  rw [its_len] at hl
  obtain ⟨g, cur, rfl, _⟩ := h.at_ (by omega)
  have hr := (Own.row h).1
  refine ⟨g, rfl, hr.mine ?_, hr.mine ?_⟩
  · have := its_at L i 0 (by omega) (by omega)
    rw [Nat.add_zero] at this
    rw [this]; rfl
  · rw [its_at L i 1 (by omega) (by omega)]; rfl
set_option maxHeartbeats 1000000 in
theorem hpLess (x y : Itm) (w : World) : Calls Try.prog 161 #[itVal x, itVal y] w fun e w' => e = .returned (.bool (ahead x y)) ∧ Grows w w' := by
  obtain ⟨a, k⟩ := x
  obtain ⟨c, l⟩ := y
  unfold itVal
  dsimp only
  rcases Nat.lt_trichotomy k l with h | h | h
  · have HA : ahead (a, k) (c, l) = true := decide_eq_true (.inl h)
    rw [HA]
    have d1 : decide ((k : Int) < (l : Int)) = true := decide_eq_true (by omega)
    have d2 : decide (k < l) = true := decide_eq_true h
    clear h HA
    go_enter Try.func161, Try.ntmps161
    go_wp2
    go_ret
    exact ⟨rfl, GG⟩
  · subst h
    have HA : ahead (a, k) (c, k) = decide (a < c) := by simp [ahead]
    rw [HA]
    have HD : Hid (decide ((a : Int) < (c : Int)) = decide (a < c)) := by simp [Hid]
    clear HA
    go_enter Try.func161, Try.ntmps161
    go_wp2
    all_goals go_ret
    all_goals refine ⟨?_, GG⟩
    all_goals first | rfl | simp [HD.out]
  · have HA : ahead (a, k) (c, l) = false := decide_eq_false (by dsimp only; omega)
    rw [HA]
    have d1 : decide ((k : Int) < (l : Int)) = false := decide_eq_false (by omega)
    have d2 : decide (k < l) = false := decide_eq_false (by omega)
    have d3 : ((k : Int) == (l : Int)) = false := beq_eq_false_iff_ne.2 (by omega)
    have d4 : (k == l) = false := beq_eq_false_iff_ne.2 (by omega)
    have d5 : ¬ k = l := by omega
    clear h HA
    go_enter Try.func161, Try.ntmps161
    go_wp2
    go_ret
    exact ⟨rfl, GG⟩
theorem HpAt.lay {w W : World} {b g c G : Nat} {s : HS} (i : Nat) (x : Itm) (h1 : Arr w b 221 [.slice (some ⟨g, 0, none⟩) s.L.length c, .slice (some ⟨G, 0, none⟩) s.T.length s.T.length]) (h2 : Own w 0 223 2 (some ⟨g, 0, none⟩) s.L.length c (its s.L))
    (h3 : Row1 w G 3 1 s.T.length s.T.length (s.T.map (.int .i64))) (hg : Grows w W) (hi : i < s.L.length) {S : Nat → Prop} (s1 : S b) (s2 : S G) (s3 : S g) :
    HpAt (((W.setCell ⟨g, i * 2, none⟩ (.int .i64 (x.1 : Int))).setCell ⟨g, i * 2 + 1, none⟩ (.int .u64 (x.2 : Int))).setCell ⟨G, x.1, none⟩ (.int .i64 (i : Int))) S b (s.lay i x) := by
  have hr := (Own.row h2).1
  have n1 := hr.ne h1 (by decide)
  have n2 := h3.ne h1 (by decide)
  have n3 := hr.ne2 h3 (by decide)
  have e := its_set s.L i x hi
  refine ⟨some ⟨g, 0, none⟩, c, G, ?_, ?_, ?_, s1, s2, fun p hp => by injection hp with hp; subst hp; exact s3⟩
  · rw [(HS.lay_len s i x).1, (HS.lay_len s i x).2]
    exact (((h1.grow hg).other n1 _).other n1 _).other n2 _
  · rw [(HS.lay_len s i x).1]
    show Own _ _ _ _ _ _ _ (its (s.L.set i x))
    rw [← e]
    exact ((((hr.grow hg).set _ _).set _ _).other (Ne.symm n3) _).own (Nat.zero_le _)
  · rw [(HS.lay_len s i x).2]
    have : (s.lay i x).T.map (Value.int .i64) = (s.T.map (Value.int .i64)).set x.1 (.int .i64 (i : Int)) := by simp [HS.lay, List.map_set]
    rw [this]
    exact (((h3.grow hg).other n3 _).other n3 _).set _ _
set_option maxRecDepth 20000 in
set_option maxHeartbeats 2000000 in
theorem hpLay (b : Nat) (s : HS) (i : Nat) (x : Itm) (S : Nat → Prop) (w : World) (h : HpAt w S b s) (hi : i < s.L.length) (hx : x.1 < s.T.length) :
    Calls Try.prog 162 #[.pointer (some ⟨b, 0, none⟩), .int .i64 (i : Int), itVal x] w fun e w' => e = .returned (.tuple #[]) ∧ HpAt w' S b (s.lay i x) ∧ Touch S w w' := by
  obtain ⟨A, c, G, h1, h2, h3, h4, h5, h6⟩ := h
  obtain ⟨g, rfl, m1, m2⟩ := h2.item hi
  have m3 := h3.int hx
  have h7 := h6 _ rfl
  have H2 := hide h2
  have H3 := hide h3
  have HR := hide h1
  have hr := (Own.row h2).1
  have n1 : ¬ g = b := hr.ne h1 (by decide)
  have n2 : ¬ G = b := h3.ne h1 (by decide)
  have n3 : ¬ g = G := hr.ne2 h3 (by decide)
  have n4 : ¬ g = w.heap.size := by have := hr.lt; omega
  clear h2 h3 h6 hr
  unfold itVal
  go_enter Try.func162, Try.ntmps162
  go_wp2_with fail
  go_region_with fail
  all_goals go_wp2_with fail
  all_goals go_end0
  all_goals exact ⟨rfl, (HpAt.lay i x HR.out H2.out H3.out ((Grows.refl w).new _) hi h4 h5 h7).grow (Grows.refl _).drew, ((((((Grows.refl w).new _).touch S).set (.inl h7) _).set (.inl h7) _).set (.inl h5) _).drew⟩
end Go.Proofs.Ytgplpgldhoelcaa

namespace Go.Proofs.Ytgplpgldhoelcaa
open Go Go.RowKit
def wv (W : List Nat) : List Value := W.map fun (x : Nat) => Value.int .u64 (x : Int)
theorem wv_len (W : List Nat) : (wv W).length = W.length := by simp [wv]
theorem wv_at {W : List Nat} {j : Nat} (h : j < W.length) : (wv W)[j]? = some (.int .u64 (gn W j : Int)) := by simp [wv, gn, h]
theorem wv_set (W : List Nat) (j x : Nat) : (wv W).set j (.int .u64 (x : Int)) = wv (W.set j x) := by simp [wv, List.map_set]
structure BtAt (w : World) (b g n : Nat) (W : List Nat) : Prop where
  row : Arr w b 243 [.int .i64 (n : Int), .slice (some ⟨g, 0, none⟩) W.length W.length]
  words : Row1 w g 38 1 W.length W.length (wv W)
  room : n ≤ W.length * 64
  small : ∀ j, j < W.length → gn W j < 18446744073709551616
def hasW (W : List Nat) (i : Nat) : Bool := (gn W (i / 64)).testBit (i % 64)
theorem hasW_set (W : List Nat) (i j : Nat) (hi : i / 64 < W.length) : hasW (W.set (i / 64) (gn W (i / 64) ||| 2 ^ (i % 64))) j = (hasW W j || decide (j = i)) := by
  unfold hasW
  rw [gn_set _ _ _ _ hi]
  by_cases h : j / 64 = i / 64
  · rw [if_pos h, Nat.testBit_or, Nat.testBit_two_pow, h]
    congr 1
    apply bool_ext
    simp
    omega
  · rw [if_neg h]
    have : ¬ j = i := fun e => h (by rw [e])
    simp [this]
theorem or_small {x r : Nat} (hx : x < 18446744073709551616) (hr : r < 64) : x ||| 2 ^ r < 18446744073709551616 := by
  have h1 : (2 : Nat) ^ r < 2 ^ 64 := Nat.pow_lt_pow_right (by omega) hr
  have := Nat.or_lt_two_pow (x := x) (y := 2 ^ r) (n := 64) hx h1
  exact this
def GiveAdd (w : World) (b g n : Nat) (W : List Nat) (i : Int) (e : Ending) (w' : World) : Prop :=
  ∃ r W', e = .returned (.bool r) ∧ BtAt w' b g n W' ∧ (∀ j, j < n → hasW W' j = (hasW W j || decide ((j : Int) = i))) ∧ Touch (fun k => k = g) w w'
theorem BtAt.grow {w w' : World} {b g n : Nat} {W : List Nat} (h : BtAt w b g n W) (hg : Grows w w') : BtAt w' b g n W := ⟨h.row.grow hg, h.words.grow hg, h.room, h.small⟩
theorem GiveAdd.same {w w' : World} {b g n : Nat} {W : List Nat} {i : Int} {r : Bool} (h : BtAt w b g n W) (hg : Grows w w') (hn : ∀ j, j < n → (j : Int) = i → hasW W j = true) : GiveAdd w b g n W i (.returned (.bool r)) w' :=
  ⟨r, W, rfl, h.grow hg, fun j hj => by
    by_cases e : (j : Int) = i
    · rw [hn j hj e]; rfl
    · simp [e], hg.touch _⟩
theorem BtAt.put {w W' : World} {b g n : Nat} {W : List Nat} {i : Nat} (h : BtAt w b g n W) (hg : Grows w W') (hi : i < n) : GiveAdd w b g n W i (.returned (.bool true)) (W'.setCell ⟨g, i / 64, none⟩ (.int .u64 ((gn W (i / 64) ||| 2 ^ (i % 64) : Nat) : Int))) := by
  have hl : i / 64 < W.length := by have := h.room; omega
  refine ⟨true, W.set (i / 64) (gn W (i / 64) ||| 2 ^ (i % 64)), rfl, ⟨?_, ?_, by simpa using h.room, fun j hj => ?_⟩, fun j _ => ?_, (hg.touch (fun k => k = g)).set (p := ⟨g, i / 64, none⟩) (.inl rfl) _⟩
  · rw [List.length_set]; exact (h.row.grow hg).other (h.words.ne h.row (by decide)) _
  · rw [List.length_set, ← wv_set]; exact (h.words.grow hg).set _ _
  · rw [gn_set _ _ _ _ hl]
    split
    · exact or_small (h.small _ hl) (by omega)
    · exact h.small j (by simpa using hj)
  · rw [hasW_set _ _ _ hl]
    congr 1
    apply bool_ext
    simp
    omega
end Go.Proofs.Ytgplpgldhoelcaa

namespace Go.Proofs.Ytgplpgldhoelcaa
open Go Go.RowKit
def RiseAt (w : World) (S : Nat → Prop) (b N bx : Nat) (s : HS) (i : Nat) (x : Itm) (k : Nat) (wr : World) : Prop :=
  ∃ s' : HS, HpAt wr S b s' ∧ s'.In N ∧ s'.L.length = s.L.length ∧ k < s.L.length ∧ s'.rise k x = s.rise i x ∧ Touch S w wr ∧ Arr wr bx 223 [.int .i64 (x.1 : Int), .int .u64 (x.2 : Int)]
set_option maxRecDepth 20000 in
set_option maxHeartbeats 4000000 in
theorem hpRise (b N : Nat) (s : HS) (i : Nat) (x : Itm) (S : Nat → Prop) (w : World) (h : HpAt w S b s) (hs : ∀ k, S k → k < w.heap.size) (hin : s.In N) (hi : i < s.L.length) (hx : x.1 < N) (hl : s.L.length ≤ 100000) :
    Calls Try.prog 146 #[.pointer (some ⟨b, 0, none⟩), .int .i64 (i : Int), itVal x] w fun e w' => e = .returned (.tuple #[]) ∧ HpAt w' S b (s.rise i x) ∧ Touch S w w' := by
  have hbx : ¬ S w.heap.size := fun e => by have := hs _ e; omega
  have H0 : Hid (RiseAt w S b N w.heap.size s i x i (w.alloc (.cells #[.int .i64 (x.1 : Int), .int .u64 (x.2 : Int)] 223))) :=
    ⟨s, h.grow ((Grows.refl w).new _), hin, rfl, hi, rfl, ((Grows.refl w).new _).touch S, Arr.make _ _ _⟩
  clear h hs hin
  unfold itVal
  go_enter Try.func146, Try.ntmps146
  go_wp2_with fail
  go_step3
  go_wp2_with fail
  go_step3
  go_wp2_with fail
  go_loopw [1] (fun v wr => ∃ k : Nat, v = .int .i64 (k : Int) ∧ RiseAt w S b N w.heap.size s i x k wr) (fun v _ => (Go.RowKit.intOf v).toNat)
  case atStart => exact ⟨i, rfl, H0.out⟩
  case round =>
    obtain ⟨k, rfl, s', h1, h2, h3, h4, h5, h6, h7⟩ := hrel
    clear H0
    have hk' : k < s'.L.length := by omega
    have HLX := hide (fun (W : World) (hg : Grows wr W) => hpLay b s' k x S W (h1.grow hg) hk' (by rw [h2.1]; exact hx))
    by_cases hk0 : k = 0
    · subst hk0
      have HE : Hid (s'.lay 0 x = s.rise i x) := by rw [← h5, HS.rise, dif_neg (fun e => absurd e.1 (by omega))]; rfl
      have H6 := hide h6
      clear h1 h2 h3 h5 h6
      go_wp2_with (go_at_call 162; refine (HLX.out _ GG).mono ?_; rintro e w' ⟨rfl, hp, ht⟩; have HP := hide hp; have HT := hide ht; clear hp ht)
      rw [Exit.noGoto_normal]
      go_end0
      exact ⟨rfl, HE.out ▸ HP.out, H6.out.trans HT.out⟩
    · obtain ⟨u, rfl⟩ : ∃ u, k = u + 1 := ⟨k - 1, by omega⟩
      obtain ⟨p, hp⟩ : ∃ p, u / 2 = p := ⟨_, rfl⟩
      have hq : (u : Int) / 2 = (p : Int) := by omega
      have hpl : p < s'.L.length := by omega
      have hpu : p ≤ u := by omega
      obtain ⟨A, c, G, r1, r2, r3, r4, r5, r6⟩ := h1
      obtain ⟨g, rfl, m1, m2⟩ := r2.item hpl
      have hT := h2.1
      have H2 := hide h2
      have H6 := hide h6
      have HLU := hide (fun (W : World) (hg : Grows wr W) => hpLay b s' (u + 1) (gi2 s'.L p) S W ((show HpAt wr S b s' from ⟨_, c, G, r1, r2, r3, r4, r5, r6⟩).grow hg) hk' (by rw [hT]; exact h2.2 p hpl))
      have HLE := hide (fun (W : World) => hpLess x (gi2 s'.L p) W)
      have HR : Hid (s'.rise (u + 1) x = if ahead x (gi2 s'.L p) = true then (s'.lay (u + 1) (gi2 s'.L p)).rise p x else s'.lay (u + 1) x) := by
        show _ = _
        rw [HS.rise, Nat.add_sub_cancel, hp]
        by_cases ha : ahead x (gi2 s'.L p) = true
        · rw [dif_pos ⟨by omega, ha⟩, if_pos ha]
        · rw [dif_neg (fun e => ha e.2), if_neg ha]
      have H5 := hide h5
      have HP0 := hide hp
      clear h2 h5 h6 r2 r3 r6 hT hp
      cases ha : ahead x (gi2 s'.L p) with
      | true =>
        rw [ha] at HLE HR
        generalize hgi : gi2 s'.L p = y at *
        have HGI := hide hgi
        clear ha hgi
        unfold itVal at HLU
        obtain ⟨y1, y2⟩ := y
        dsimp only at *
        rw [Int.natCast_add, Int.natCast_one] at HLU
        go_wp2_with fail
        ((first | refine wp_region_gen2 (by kernel_rfl) (by kernel_rfl) ?_ | refine wp_region_gen (by kernel_rfl) (by kernel_rfl) ?_); (repeat' (first | (refine gLex_val0 rfl (by kernel_rfl) (fun K hK => ?_); (go_simp; (try (simp only [↓IntWalk.iteOmega]; try go_simp)); (try simp (disch := omega) only [IntWalk.i64_in]); (try simp (disch := omega) only [IntWalk.u64_in]); first | (refine hK _ ?_; clear hK K) | (apply Exists.intro; refine ⟨fun x => ?_, hK _ ?_⟩; (first | (exact HLE.out _)); clear hK K))) | (refine gLex_undef rfl rfl rfl (by kernel_rfl) (fun K hK => ?_); go_simp; refine hK _ ?_; clear hK K) | (refine gLex_ask rfl rfl rfl ?_; first | (apply gAsk_yes; kernel_rfl; intro K hK; (go_simp; (try (simp only [↓IntWalk.iteOmega]; try go_simp)); (try simp (disch := omega) only [IntWalk.i64_in]); (try simp (disch := omega) only [IntWalk.u64_in]); first | (refine hK _ ?_; clear hK K) | (apply Exists.intro; refine ⟨fun x => ?_, hK _ ?_⟩; (first | (exact HLE.out _)); clear hK K))) | ((first | apply gAsk_no1 | apply gAsk_no2); kernel_rfl; intro K hK; simp [go_sem]; refine hK _ ?_; clear hK K) | (apply gAsk_part; kernel_rfl; all_goals (intro h K hK; (try simp only [Bool.not_true] at h); (try simp only [Bool.not_false] at h); (try simp only [decide_eq_true_eq] at h); (try simp only [decide_eq_false_iff_not] at h); first | (exfalso; first | contradiction | omega) | (go_simp; (try (simp only [↓IntWalk.iteOmega]; try go_simp)); (try simp (disch := omega) only [IntWalk.i64_in]); (try simp (disch := omega) only [IntWalk.u64_in]); first | (refine hK _ ?_; clear hK K) | (apply Exists.intro; refine ⟨fun x => ?_, hK _ ?_⟩; (first | (exact HLE.out _)); clear hK K))))))); all_goals ((apply gLex_end); intro z))
        go_wp2_with (go_at_call 162; refine (HLU.out _ GG).mono ?_; rintro e w' ⟨rfl, hp, ht⟩; have HPP := hide hp; have HTT := hide ht; clear hp ht)
        have hgz : Grows wr z.now := GG
        go_roundw
        case rel =>
          refine ⟨p, by go_num, s'.lay (u + 1) (y1, y2), HPP.out, H2.out.lay _ _ (by have := HGI.out; have h := H2.out.2 p hpl; rw [this] at h; exact h), by rw [(HS.lay_len _ _ _).1]; exact h3, by omega, ?_, (H6.out.grows hgz).trans HTT.out, ?_⟩
          · rw [← H5.out, HR.out]; rfl
          · exact (h7.grow hgz).touch HTT.out hbx
        case measure => simp [Go.RowKit.intOf]; omega
      | false =>
        rw [ha] at HLE HR
        clear ha HLU
        generalize gi2 s'.L p = y at *
        unfold itVal at HLE
        obtain ⟨y1, y2⟩ := y
        dsimp only at *
        rw [Int.natCast_add, Int.natCast_one] at HLX
        go_wp2_with fail
        ((first | refine wp_region_gen2 (by kernel_rfl) (by kernel_rfl) ?_ | refine wp_region_gen (by kernel_rfl) (by kernel_rfl) ?_); (repeat' (first | (refine gLex_val0 rfl (by kernel_rfl) (fun K hK => ?_); (go_simp; (try (simp only [↓IntWalk.iteOmega]; try go_simp)); (try simp (disch := omega) only [IntWalk.i64_in]); (try simp (disch := omega) only [IntWalk.u64_in]); first | (refine hK _ ?_; clear hK K) | (apply Exists.intro; refine ⟨fun x => ?_, hK _ ?_⟩; (first | (exact HLE.out _)); clear hK K))) | (refine gLex_undef rfl rfl rfl (by kernel_rfl) (fun K hK => ?_); go_simp; refine hK _ ?_; clear hK K) | (refine gLex_ask rfl rfl rfl ?_; first | (apply gAsk_yes; kernel_rfl; intro K hK; (go_simp; (try (simp only [↓IntWalk.iteOmega]; try go_simp)); (try simp (disch := omega) only [IntWalk.i64_in]); (try simp (disch := omega) only [IntWalk.u64_in]); first | (refine hK _ ?_; clear hK K) | (apply Exists.intro; refine ⟨fun x => ?_, hK _ ?_⟩; (first | (exact HLE.out _)); clear hK K))) | ((first | apply gAsk_no1 | apply gAsk_no2); kernel_rfl; intro K hK; simp [go_sem]; refine hK _ ?_; clear hK K) | (apply gAsk_part; kernel_rfl; all_goals (intro h K hK; (try simp only [Bool.not_true] at h); (try simp only [Bool.not_false] at h); (try simp only [decide_eq_true_eq] at h); (try simp only [decide_eq_false_iff_not] at h); first | (exfalso; first | contradiction | omega) | (go_simp; (try (simp only [↓IntWalk.iteOmega]; try go_simp)); (try simp (disch := omega) only [IntWalk.i64_in]); (try simp (disch := omega) only [IntWalk.u64_in]); first | (refine hK _ ?_; clear hK K) | (apply Exists.intro; refine ⟨fun x => ?_, hK _ ?_⟩; (first | (exact HLE.out _)); clear hK K))))))); all_goals ((apply gLex_end); intro z))
        go_wp2_with (go_at_call 162; refine (HLX.out _ GG).mono ?_; rintro e w' ⟨rfl, hp, ht⟩; have HPP := hide hp; have HTT := hide ht; clear hp ht)
        have hgz : Grows wr z.now := GG
        have HE : Hid (s'.lay (u + 1) x = s.rise i x) := by rw [← H5.out, HR.out]; rfl
        rw [Exit.noGoto_normal]
        go_end0
        exact ⟨rfl, HE.out ▸ HPP.out, (H6.out.grows hgz).trans HTT.out⟩
end Go.Proofs.Ytgplpgldhoelcaa

namespace Go.Proofs.Ytgplpgldhoelcaa
open Go Go.RowKit
theorem HS.sink_in {s : HS} {N : Nat} (h : s.In N) (i : Nat) (x : Itm) (hx : x.1 < N) : (s.sink i x).In N ∧ (s.sink i x).L.length = s.L.length := by
  induction hm : s.L.length - i using Nat.strongRecOn generalizing s i with
  | _ m ih =>
    subst hm
    rw [HS.sink]
    split
    · rename_i hc
      have h1 := HS.low_gt s i
      have h2 := (HS.lay_len s i (gi2 s.L (s.low i))).1
      have := ih _ (by rw [h2]; omega) (h.lay i _ (h.2 _ hc.1)) (s.low i) rfl
      rw [h2] at this
      exact this
    · exact ⟨h.lay i x hx, (HS.lay_len s i x).1⟩
def lowB (s : HS) (lo : Nat) : Bool := decide (lo + 1 < s.L.length ∧ ahead (gi2 s.L (lo + 1)) (gi2 s.L lo) = true)
def SinkAt (w : World) (S : Nat → Prop) (b N bx : Nat) (s : HS) (i : Nat) (x : Itm) (k : Nat) (wr : World) : Prop :=
  ∃ s' : HS, HpAt wr S b s' ∧ s'.In N ∧ s'.L.length = s.L.length ∧ k < s.L.length ∧ s'.sink k x = s.sink i x ∧ Touch S w wr ∧ Arr wr bx 223 [.int .i64 (x.1 : Int), .int .u64 (x.2 : Int)]
set_option maxRecDepth 20000 in
set_option maxHeartbeats 4000000 in
theorem hpSink (b N : Nat) (s : HS) (i : Nat) (x : Itm) (S : Nat → Prop) (w : World) (h : HpAt w S b s) (hs : ∀ k, S k → k < w.heap.size) (hin : s.In N) (hi : i < s.L.length) (hx : x.1 < N) (hl : s.L.length ≤ 100000) :
    Calls Try.prog 164 #[.pointer (some ⟨b, 0, none⟩), .int .i64 (i : Int), itVal x] w fun e w' => e = .returned (.tuple #[]) ∧ HpAt w' S b (s.sink i x) ∧ Touch S w w' := by
  have hbx : ¬ S w.heap.size := fun e => by have := hs _ e; omega
  have H0 : Hid (SinkAt w S b N w.heap.size s i x i (w.alloc (.cells #[.int .i64 (x.1 : Int), .int .u64 (x.2 : Int)] 223))) :=
    ⟨s, h.grow ((Grows.refl w).new _), hin, rfl, hi, rfl, ((Grows.refl w).new _).touch S, Arr.make _ _ _⟩
  clear h hs hin
  unfold itVal
  go_enter Try.func164, Try.ntmps164
  go_wp2_with fail
  go_step3
  go_wp2_with fail
  go_step3
  go_wp2_with fail
  go_loopw [1] (fun v wr => ∃ k : Nat, v = .int .i64 (k : Int) ∧ SinkAt w S b N w.heap.size s i x k wr) (fun v _ => s.L.length - (Go.RowKit.intOf v).toNat)
  case atStart => exact ⟨i, rfl, H0.out⟩
  case round =>
    obtain ⟨k, rfl, s', h1, h2, h3, h4, h5, h6, h7⟩ := hrel
    clear H0
    have hk' : k < s'.L.length := by omega
    have HLX := hide (fun (W : World) (hg : Grows wr W) => hpLay b s' k x S W (h1.grow hg) hk' (by rw [h2.1]; exact hx))
    obtain ⟨lo, hlo⟩ : ∃ lo, 2 * k + 1 = lo := ⟨_, rfl⟩
    have hlo2 : 2 * (k : Int) + 1 = (lo : Int) := by omega
    obtain ⟨A, c, G, r1, r2, r3, r4, r5, r6⟩ := h1
    have HLOW : Hid (s'.low k = if lo + 1 < s'.L.length ∧ ahead (gi2 s'.L (lo + 1)) (gi2 s'.L lo) = true then lo + 1 else lo) := by
      unfold HS.low; rw [hlo]; exact rfl
    have HT := hide h2.1
    have hll : s'.L.length ≤ 100000 := by omega
    have hloB : lo ≤ 300000 := by omega
    have HLO := hide hlo
    have H1 := hide (show HpAt wr S b s' from ⟨A, c, G, r1, r2, r3, r4, r5, r6⟩)
    have H2 := hide h2
    have H3 := hide h3
    have H5 := hide h5
    have H6 := hide h6
    have R2 := hide r2
    clear h2 h3 h5 h6 r2 r3 r6 hlo
    go_upto_region 4 with fail
    go_cut [35] (fun v wx => v = .bool (lowB s' lo) ∧ ∃ y : Later wr, wx = y.now)
    case first =>
      by_cases hc : lo + 1 < s'.L.length
      · obtain ⟨g, rfl, m1, m2⟩ := R2.out.item (i := lo) (by omega)
        obtain ⟨g', e, m3, m4⟩ := R2.out.item (i := lo + 1) hc
        injection e with e
        injection e with e
        subst e
        have hc1 : decide ((lo : Int) + 1 < (s'.L.length : Int)) = true := decide_eq_true (by omega)
        have HLE := hide (fun (W : World) => hpLess (gi2 s'.L (lo + 1)) (gi2 s'.L lo) W)
        cases ha : ahead (gi2 s'.L (lo + 1)) (gi2 s'.L lo) with
        | true =>
          rw [ha] at HLE
          have HV : Hid (lowB s' lo = true) := decide_eq_true ⟨hc, ha⟩
          clear ha HLOW
          generalize gi2 s'.L (lo + 1) = y at *
          generalize gi2 s'.L lo = y' at *
          unfold itVal at HLE
          ((first | refine wp_region_gen2 (by kernel_rfl) (by kernel_rfl) ?_ | refine wp_region_gen (by kernel_rfl) (by kernel_rfl) ?_); (repeat' (first | (refine gLex_val0 rfl (by kernel_rfl) (fun K hK => ?_); (go_simp; (try (simp only [↓IntWalk.iteOmega]; try go_simp)); (try simp (disch := omega) only [IntWalk.i64_in]); (try simp (disch := omega) only [IntWalk.u64_in]); first | (refine hK _ ?_; clear hK K) | (apply Exists.intro; refine ⟨fun x => ?_, hK _ ?_⟩; (first | (exact HLE.out _)); clear hK K))) | (refine gLex_undef rfl rfl rfl (by kernel_rfl) (fun K hK => ?_); go_simp; refine hK _ ?_; clear hK K) | (refine gLex_ask rfl rfl rfl ?_; first | (apply gAsk_yes; kernel_rfl; intro K hK; (go_simp; (try (simp only [↓IntWalk.iteOmega]; try go_simp)); (try simp (disch := omega) only [IntWalk.i64_in]); (try simp (disch := omega) only [IntWalk.u64_in]); first | (refine hK _ ?_; clear hK K) | (apply Exists.intro; refine ⟨fun x => ?_, hK _ ?_⟩; (first | (exact HLE.out _)); clear hK K))) | ((first | apply gAsk_no1 | apply gAsk_no2); kernel_rfl; intro K hK; simp [go_sem]; refine hK _ ?_; clear hK K) | (apply gAsk_part; kernel_rfl; all_goals (intro h K hK; (try simp only [Bool.not_true] at h); (try simp only [Bool.not_false] at h); (try simp only [decide_eq_true_eq] at h); (try simp only [decide_eq_false_iff_not] at h); first | (exfalso; first | contradiction | omega) | (go_simp; (try (simp only [↓IntWalk.iteOmega]; try go_simp)); (try simp (disch := omega) only [IntWalk.i64_in]); (try simp (disch := omega) only [IntWalk.u64_in]); first | (refine hK _ ?_; clear hK K) | (apply Exists.intro; refine ⟨fun x => ?_, hK _ ?_⟩; (first | (exact HLE.out _)); clear hK K))))))); all_goals ((apply gLex_end); intro z))
          go_wp2_with fail
          go_meet
          case rel => exact ⟨by rw [HV.out], z, rfl⟩
        | false =>
          rw [ha] at HLE
          have HV : Hid (lowB s' lo = false) := decide_eq_false (fun e => by rw [ha] at e; cases e.2)
          clear ha HLOW
          generalize gi2 s'.L (lo + 1) = y at *
          generalize gi2 s'.L lo = y' at *
          unfold itVal at HLE
          ((first | refine wp_region_gen2 (by kernel_rfl) (by kernel_rfl) ?_ | refine wp_region_gen (by kernel_rfl) (by kernel_rfl) ?_); (repeat' (first | (refine gLex_val0 rfl (by kernel_rfl) (fun K hK => ?_); (go_simp; (try (simp only [↓IntWalk.iteOmega]; try go_simp)); (try simp (disch := omega) only [IntWalk.i64_in]); (try simp (disch := omega) only [IntWalk.u64_in]); first | (refine hK _ ?_; clear hK K) | (apply Exists.intro; refine ⟨fun x => ?_, hK _ ?_⟩; (first | (exact HLE.out _)); clear hK K))) | (refine gLex_undef rfl rfl rfl (by kernel_rfl) (fun K hK => ?_); go_simp; refine hK _ ?_; clear hK K) | (refine gLex_ask rfl rfl rfl ?_; first | (apply gAsk_yes; kernel_rfl; intro K hK; (go_simp; (try (simp only [↓IntWalk.iteOmega]; try go_simp)); (try simp (disch := omega) only [IntWalk.i64_in]); (try simp (disch := omega) only [IntWalk.u64_in]); first | (refine hK _ ?_; clear hK K) | (apply Exists.intro; refine ⟨fun x => ?_, hK _ ?_⟩; (first | (exact HLE.out _)); clear hK K))) | ((first | apply gAsk_no1 | apply gAsk_no2); kernel_rfl; intro K hK; simp [go_sem]; refine hK _ ?_; clear hK K) | (apply gAsk_part; kernel_rfl; all_goals (intro h K hK; (try simp only [Bool.not_true] at h); (try simp only [Bool.not_false] at h); (try simp only [decide_eq_true_eq] at h); (try simp only [decide_eq_false_iff_not] at h); first | (exfalso; first | contradiction | omega) | (go_simp; (try (simp only [↓IntWalk.iteOmega]; try go_simp)); (try simp (disch := omega) only [IntWalk.i64_in]); (try simp (disch := omega) only [IntWalk.u64_in]); first | (refine hK _ ?_; clear hK K) | (apply Exists.intro; refine ⟨fun x => ?_, hK _ ?_⟩; (first | (exact HLE.out _)); clear hK K))))))); all_goals ((apply gLex_end); intro z))
          go_wp2_with fail
          go_meet
          case rel => exact ⟨by rw [HV.out], z, rfl⟩
      · have hc1 : decide ((lo : Int) + 1 < (s'.L.length : Int)) = false := decide_eq_false (by omega)
        have HV : Hid (lowB s' lo = false) := decide_eq_false (fun e => hc e.1)
        clear HLOW
        ((first | refine wp_region_gen2 (by kernel_rfl) (by kernel_rfl) ?_ | refine wp_region_gen (by kernel_rfl) (by kernel_rfl) ?_); (repeat' (first | (refine gLex_val0 rfl (by kernel_rfl) (fun K hK => ?_); (go_simp; (try (simp only [↓IntWalk.iteOmega]; try go_simp)); (try simp (disch := omega) only [IntWalk.i64_in]); (try simp (disch := omega) only [IntWalk.u64_in]); first | (refine hK _ ?_; clear hK K) | (apply Exists.intro; refine ⟨fun x => ?_, hK _ ?_⟩; (first | fail); clear hK K))) | (refine gLex_undef rfl rfl rfl (by kernel_rfl) (fun K hK => ?_); go_simp; refine hK _ ?_; clear hK K) | (refine gLex_ask rfl rfl rfl ?_; first | (apply gAsk_yes; kernel_rfl; intro K hK; (go_simp; (try (simp only [↓IntWalk.iteOmega]; try go_simp)); (try simp (disch := omega) only [IntWalk.i64_in]); (try simp (disch := omega) only [IntWalk.u64_in]); first | (refine hK _ ?_; clear hK K) | (apply Exists.intro; refine ⟨fun x => ?_, hK _ ?_⟩; (first | fail); clear hK K))) | ((first | apply gAsk_no1 | apply gAsk_no2); kernel_rfl; intro K hK; simp [go_sem]; refine hK _ ?_; clear hK K) | (apply gAsk_part; kernel_rfl; all_goals (intro h K hK; (try simp only [Bool.not_true] at h); (try simp only [Bool.not_false] at h); (try simp only [decide_eq_true_eq] at h); (try simp only [decide_eq_false_iff_not] at h); first | (exfalso; first | contradiction | omega) | (go_simp; (try (simp only [↓IntWalk.iteOmega]; try go_simp)); (try simp (disch := omega) only [IntWalk.i64_in]); (try simp (disch := omega) only [IntWalk.u64_in]); first | (refine hK _ ?_; clear hK K) | (apply Exists.intro; refine ⟨fun x => ?_, hK _ ?_⟩; (first | fail); clear hK K))))))); all_goals ((apply gLex_end); intro z))
        go_wp2_with fail
        go_meet
        case rel => exact ⟨by rw [HV.out], z, rfl⟩
    case rest =>
      obtain ⟨rfl, y, rfl⟩ := hcut
      have HL2 : Hid (s'.low k = if lowB s' lo = true then lo + 1 else lo) := by
        show _ = _
        rw [HLOW.out]
        unfold lowB
        simp only [decide_eq_true_eq]
      cases hb : lowB s' lo with
      | true =>
        rw [hb] at HL2
        clear hb
        have hv : (lo : Int) + 1 = (s'.low k : Int) := by have := HL2.out; rw [if_pos rfl] at this; omega
        have HVV := hide hv
        clear hv HL2
        go_wp2_with fail
        rw [HVV.out]
        clear HVV hlo2
        have HS0 : Hid (s'.sink k x = if s'.low k < s'.L.length ∧ ahead (gi2 s'.L (s'.low k)) x = true then (s'.lay k (gi2 s'.L (s'.low k))).sink (s'.low k) x else s'.lay k x) := by
          show _ = _
          rw [HS.sink]
          by_cases hh : s'.low k < s'.L.length ∧ ahead (gi2 s'.L (s'.low k)) x = true
          · rw [dif_pos hh, if_pos hh]
          · rw [dif_neg hh, if_neg hh]
        have hgt := HS.low_gt s' k
        have hlw : s'.low k ≤ 300001 := by
          have := HLOW.out
          rw [this]; split <;> omega
        have HLU := hide (fun (W : World) (hg : Grows wr W) (hlt : s'.low k < s'.L.length) => hpLay b s' k (gi2 s'.L (s'.low k)) S W (H1.out.grow hg) hk' (by rw [HT.out]; exact H2.out.2 _ hlt))
        clear HLOW
        have hgy : Grows wr y.now := GG
        by_cases hc : s'.low k < s'.L.length
        · obtain ⟨g, rfl, m1, m2⟩ := R2.out.item (i := s'.low k) hc
          have HLE := hide (fun (W : World) => hpLess (gi2 s'.L (s'.low k)) x W)
          have hbb : (gi2 s'.L (s'.low k)).1 < N := H2.out.2 _ hc
          have HBB := hide hbb
          have HLU2 := hide (fun (W : World) (hg : Grows wr W) => HLU.out W hg hc)
          have hc1 : decide ((s'.L.length : Int) ≤ (s'.low k : Int)) = false := decide_eq_false (by omega)
          have hc2 : decide (s'.L.length ≤ s'.low k) = false := decide_eq_false (by omega)
          have hkk : k < s.L.length := by omega
          have hlk : s'.low k < s.L.length := by have := H3.out; omega
          have HLK := hide hlk
          have HLG := hide hgt
          have HIN : Hid ((s'.lay k (gi2 s'.L (s'.low k))).In N) := H2.out.lay _ _ hbb
          clear HLU hbb hgt hlk
          cases ha : ahead (gi2 s'.L (s'.low k)) x with
          | true =>
            have HS1 : Hid (s'.sink k x = (s'.lay k (gi2 s'.L (s'.low k))).sink (s'.low k) x) := by rw [HS0.out, if_pos ⟨hc, ha⟩]; exact rfl
            rw [ha] at HLE
            clear ha HS0
            generalize gi2 s'.L (s'.low k) = q at *
            generalize s'.low k = p at *
            unfold itVal at HLE HLU2
            obtain ⟨q1, q2⟩ := q
            dsimp only at *
            ((first | refine wp_region_gen2 (by kernel_rfl) (by kernel_rfl) ?_ | refine wp_region_gen (by kernel_rfl) (by kernel_rfl) ?_); (repeat' (first | (refine gLex_val0 rfl (by kernel_rfl) (fun K hK => ?_); (go_simp; (try (simp only [↓IntWalk.iteOmega]; try go_simp)); (try simp (disch := omega) only [IntWalk.i64_in]); (try simp (disch := omega) only [IntWalk.u64_in]); first | (refine hK _ ?_; clear hK K) | (apply Exists.intro; refine ⟨fun x => ?_, hK _ ?_⟩; (first | (exact HLE.out _)); clear hK K))) | (refine gLex_undef rfl rfl rfl (by kernel_rfl) (fun K hK => ?_); go_simp; refine hK _ ?_; clear hK K) | (refine gLex_ask rfl rfl rfl ?_; first | (apply gAsk_yes; kernel_rfl; intro K hK; (go_simp; (try (simp only [↓IntWalk.iteOmega]; try go_simp)); (try simp (disch := omega) only [IntWalk.i64_in]); (try simp (disch := omega) only [IntWalk.u64_in]); first | (refine hK _ ?_; clear hK K) | (apply Exists.intro; refine ⟨fun x => ?_, hK _ ?_⟩; (first | (exact HLE.out _)); clear hK K))) | ((first | apply gAsk_no1 | apply gAsk_no2); kernel_rfl; intro K hK; simp [go_sem]; refine hK _ ?_; clear hK K) | (apply gAsk_part; kernel_rfl; all_goals (intro h K hK; (try simp only [Bool.not_true] at h); (try simp only [Bool.not_false] at h); (try simp only [decide_eq_true_eq] at h); (try simp only [decide_eq_false_iff_not] at h); first | (exfalso; first | contradiction | omega) | (go_simp; (try (simp only [↓IntWalk.iteOmega]; try go_simp)); (try simp (disch := omega) only [IntWalk.i64_in]); (try simp (disch := omega) only [IntWalk.u64_in]); first | (refine hK _ ?_; clear hK K) | (apply Exists.intro; refine ⟨fun x => ?_, hK _ ?_⟩; (first | (exact HLE.out _)); clear hK K))))))); all_goals ((apply gLex_end); intro z))
            go_wp2_with (go_at_call 162; refine (HLU2.out _ GG).mono ?_; rintro e w' ⟨rfl, hp, ht⟩; have HPP := hide hp; have HTT := hide ht; clear hp ht)
            have hgz : Grows wr z.now := GG
            go_roundw
            case rel =>
              refine ⟨p, by go_num, s'.lay k (q1, q2), HPP.out, HIN.out, by rw [(HS.lay_len _ _ _).1]; exact H3.out, HLK.out, ?_, (H6.out.grows hgz).trans HTT.out, ?_⟩
              · rw [← H5.out, HS1.out]
              · exact (h7.grow hgz).touch HTT.out hbx
            case measure => have := HLG.out; have := HLK.out; simp [Go.RowKit.intOf]; omega
          | false =>
            have HE : Hid (s'.lay k x = s.sink i x) := by rw [← H5.out, HS0.out, if_neg (fun e => by rw [ha] at e; cases e.2)]; exact rfl
            rw [ha] at HLE
            clear ha HS0 HLU2
            generalize gi2 s'.L (s'.low k) = q at *
            generalize s'.low k = p at *
            unfold itVal at HLE
            obtain ⟨q1, q2⟩ := q
            dsimp only at *
            ((first | refine wp_region_gen2 (by kernel_rfl) (by kernel_rfl) ?_ | refine wp_region_gen (by kernel_rfl) (by kernel_rfl) ?_); (repeat' (first | (refine gLex_val0 rfl (by kernel_rfl) (fun K hK => ?_); (go_simp; (try (simp only [↓IntWalk.iteOmega]; try go_simp)); (try simp (disch := omega) only [IntWalk.i64_in]); (try simp (disch := omega) only [IntWalk.u64_in]); first | (refine hK _ ?_; clear hK K) | (apply Exists.intro; refine ⟨fun x => ?_, hK _ ?_⟩; (first | (exact HLE.out _)); clear hK K))) | (refine gLex_undef rfl rfl rfl (by kernel_rfl) (fun K hK => ?_); go_simp; refine hK _ ?_; clear hK K) | (refine gLex_ask rfl rfl rfl ?_; first | (apply gAsk_yes; kernel_rfl; intro K hK; (go_simp; (try (simp only [↓IntWalk.iteOmega]; try go_simp)); (try simp (disch := omega) only [IntWalk.i64_in]); (try simp (disch := omega) only [IntWalk.u64_in]); first | (refine hK _ ?_; clear hK K) | (apply Exists.intro; refine ⟨fun x => ?_, hK _ ?_⟩; (first | (exact HLE.out _)); clear hK K))) | ((first | apply gAsk_no1 | apply gAsk_no2); kernel_rfl; intro K hK; simp [go_sem]; refine hK _ ?_; clear hK K) | (apply gAsk_part; kernel_rfl; all_goals (intro h K hK; (try simp only [Bool.not_true] at h); (try simp only [Bool.not_false] at h); (try simp only [decide_eq_true_eq] at h); (try simp only [decide_eq_false_iff_not] at h); first | (exfalso; first | contradiction | omega) | (go_simp; (try (simp only [↓IntWalk.iteOmega]; try go_simp)); (try simp (disch := omega) only [IntWalk.i64_in]); (try simp (disch := omega) only [IntWalk.u64_in]); first | (refine hK _ ?_; clear hK K) | (apply Exists.intro; refine ⟨fun x => ?_, hK _ ?_⟩; (first | (exact HLE.out _)); clear hK K))))))); all_goals ((apply gLex_end); intro z))
            go_wp2_with (go_at_call 162; refine (HLX.out _ GG).mono ?_; rintro e w' ⟨rfl, hp, ht⟩; have HPP := hide hp; have HTT := hide ht; clear hp ht)
            have hgz : Grows wr z.now := GG
            rw [Exit.noGoto_normal]
            go_end0
            exact ⟨rfl, HE.out ▸ HPP.out, (H6.out.grows hgz).trans HTT.out⟩
        · have hc1 : decide ((s'.L.length : Int) ≤ (s'.low k : Int)) = true := decide_eq_true (by omega)
          have hc2 : decide (s'.L.length ≤ s'.low k) = true := decide_eq_true (by omega)
          have HE : Hid (s'.lay k x = s.sink i x) := by rw [← H5.out, HS0.out, if_neg (fun e => hc e.1)]; exact rfl
          clear HLU HS0 hgt
          generalize s'.low k = p at *
          ((first | refine wp_region_gen2 (by kernel_rfl) (by kernel_rfl) ?_ | refine wp_region_gen (by kernel_rfl) (by kernel_rfl) ?_); (repeat' (first | (refine gLex_val0 rfl (by kernel_rfl) (fun K hK => ?_); (go_simp; (try (simp only [↓IntWalk.iteOmega]; try go_simp)); (try simp (disch := omega) only [IntWalk.i64_in]); (try simp (disch := omega) only [IntWalk.u64_in]); first | (refine hK _ ?_; clear hK K) | (apply Exists.intro; refine ⟨fun x => ?_, hK _ ?_⟩; (first | fail); clear hK K))) | (refine gLex_undef rfl rfl rfl (by kernel_rfl) (fun K hK => ?_); go_simp; refine hK _ ?_; clear hK K) | (refine gLex_ask rfl rfl rfl ?_; first | (apply gAsk_yes; kernel_rfl; intro K hK; (go_simp; (try (simp only [↓IntWalk.iteOmega]; try go_simp)); (try simp (disch := omega) only [IntWalk.i64_in]); (try simp (disch := omega) only [IntWalk.u64_in]); first | (refine hK _ ?_; clear hK K) | (apply Exists.intro; refine ⟨fun x => ?_, hK _ ?_⟩; (first | fail); clear hK K))) | ((first | apply gAsk_no1 | apply gAsk_no2); kernel_rfl; intro K hK; simp [go_sem]; refine hK _ ?_; clear hK K) | (apply gAsk_part; kernel_rfl; all_goals (intro h K hK; (try simp only [Bool.not_true] at h); (try simp only [Bool.not_false] at h); (try simp only [decide_eq_true_eq] at h); (try simp only [decide_eq_false_iff_not] at h); first | (exfalso; first | contradiction | omega) | (go_simp; (try (simp only [↓IntWalk.iteOmega]; try go_simp)); (try simp (disch := omega) only [IntWalk.i64_in]); (try simp (disch := omega) only [IntWalk.u64_in]); first | (refine hK _ ?_; clear hK K) | (apply Exists.intro; refine ⟨fun x => ?_, hK _ ?_⟩; (first | fail); clear hK K))))))); all_goals ((apply gLex_end); intro z))
          go_wp2_with (go_at_call 162; refine (HLX.out _ GG).mono ?_; rintro e w' ⟨rfl, hp, ht⟩; have HPP := hide hp; have HTT := hide ht; clear hp ht)
          have hgz : Grows wr z.now := GG
          rw [Exit.noGoto_normal]
          go_end0
          exact ⟨rfl, HE.out ▸ HPP.out, (H6.out.grows hgz).trans HTT.out⟩
      | false =>
        rw [hb] at HL2
        clear hb
        have hv : (lo : Int) = (s'.low k : Int) := by have := HL2.out; rw [if_neg (by decide)] at this; omega
        have HVV := hide hv
        clear hv HL2
        go_wp2_with fail
        rw [HVV.out]
        clear HVV hlo2
        have HS0 : Hid (s'.sink k x = if s'.low k < s'.L.length ∧ ahead (gi2 s'.L (s'.low k)) x = true then (s'.lay k (gi2 s'.L (s'.low k))).sink (s'.low k) x else s'.lay k x) := by
          show _ = _
          rw [HS.sink]
          by_cases hh : s'.low k < s'.L.length ∧ ahead (gi2 s'.L (s'.low k)) x = true
          · rw [dif_pos hh, if_pos hh]
          · rw [dif_neg hh, if_neg hh]
        have hgt := HS.low_gt s' k
        have hlw : s'.low k ≤ 300001 := by
          have := HLOW.out
          rw [this]; split <;> omega
        have HLU := hide (fun (W : World) (hg : Grows wr W) (hlt : s'.low k < s'.L.length) => hpLay b s' k (gi2 s'.L (s'.low k)) S W (H1.out.grow hg) hk' (by rw [HT.out]; exact H2.out.2 _ hlt))
        clear HLOW
        have hgy : Grows wr y.now := GG
        by_cases hc : s'.low k < s'.L.length
        · obtain ⟨g, rfl, m1, m2⟩ := R2.out.item (i := s'.low k) hc
          have HLE := hide (fun (W : World) => hpLess (gi2 s'.L (s'.low k)) x W)
          have hbb : (gi2 s'.L (s'.low k)).1 < N := H2.out.2 _ hc
          have HBB := hide hbb
          have HLU2 := hide (fun (W : World) (hg : Grows wr W) => HLU.out W hg hc)
          have hc1 : decide ((s'.L.length : Int) ≤ (s'.low k : Int)) = false := decide_eq_false (by omega)
          have hc2 : decide (s'.L.length ≤ s'.low k) = false := decide_eq_false (by omega)
          have hkk : k < s.L.length := by omega
          have hlk : s'.low k < s.L.length := by have := H3.out; omega
          have HLK := hide hlk
          have HLG := hide hgt
          have HIN : Hid ((s'.lay k (gi2 s'.L (s'.low k))).In N) := H2.out.lay _ _ hbb
          clear HLU hbb hgt hlk
          cases ha : ahead (gi2 s'.L (s'.low k)) x with
          | true =>
            have HS1 : Hid (s'.sink k x = (s'.lay k (gi2 s'.L (s'.low k))).sink (s'.low k) x) := by rw [HS0.out, if_pos ⟨hc, ha⟩]; exact rfl
            rw [ha] at HLE
            clear ha HS0
            generalize gi2 s'.L (s'.low k) = q at *
            generalize s'.low k = p at *
            unfold itVal at HLE HLU2
            obtain ⟨q1, q2⟩ := q
            dsimp only at *
            ((first | refine wp_region_gen2 (by kernel_rfl) (by kernel_rfl) ?_ | refine wp_region_gen (by kernel_rfl) (by kernel_rfl) ?_); (repeat' (first | (refine gLex_val0 rfl (by kernel_rfl) (fun K hK => ?_); (go_simp; (try (simp only [↓IntWalk.iteOmega]; try go_simp)); (try simp (disch := omega) only [IntWalk.i64_in]); (try simp (disch := omega) only [IntWalk.u64_in]); first | (refine hK _ ?_; clear hK K) | (apply Exists.intro; refine ⟨fun x => ?_, hK _ ?_⟩; (first | (exact HLE.out _)); clear hK K))) | (refine gLex_undef rfl rfl rfl (by kernel_rfl) (fun K hK => ?_); go_simp; refine hK _ ?_; clear hK K) | (refine gLex_ask rfl rfl rfl ?_; first | (apply gAsk_yes; kernel_rfl; intro K hK; (go_simp; (try (simp only [↓IntWalk.iteOmega]; try go_simp)); (try simp (disch := omega) only [IntWalk.i64_in]); (try simp (disch := omega) only [IntWalk.u64_in]); first | (refine hK _ ?_; clear hK K) | (apply Exists.intro; refine ⟨fun x => ?_, hK _ ?_⟩; (first | (exact HLE.out _)); clear hK K))) | ((first | apply gAsk_no1 | apply gAsk_no2); kernel_rfl; intro K hK; simp [go_sem]; refine hK _ ?_; clear hK K) | (apply gAsk_part; kernel_rfl; all_goals (intro h K hK; (try simp only [Bool.not_true] at h); (try simp only [Bool.not_false] at h); (try simp only [decide_eq_true_eq] at h); (try simp only [decide_eq_false_iff_not] at h); first | (exfalso; first | contradiction | omega) | (go_simp; (try (simp only [↓IntWalk.iteOmega]; try go_simp)); (try simp (disch := omega) only [IntWalk.i64_in]); (try simp (disch := omega) only [IntWalk.u64_in]); first | (refine hK _ ?_; clear hK K) | (apply Exists.intro; refine ⟨fun x => ?_, hK _ ?_⟩; (first | (exact HLE.out _)); clear hK K))))))); all_goals ((apply gLex_end); intro z))
            go_wp2_with (go_at_call 162; refine (HLU2.out _ GG).mono ?_; rintro e w' ⟨rfl, hp, ht⟩; have HPP := hide hp; have HTT := hide ht; clear hp ht)
            have hgz : Grows wr z.now := GG
            go_roundw
            case rel =>
              refine ⟨p, by go_num, s'.lay k (q1, q2), HPP.out, HIN.out, by rw [(HS.lay_len _ _ _).1]; exact H3.out, HLK.out, ?_, (H6.out.grows hgz).trans HTT.out, ?_⟩
              · rw [← H5.out, HS1.out]
              · exact (h7.grow hgz).touch HTT.out hbx
            case measure => have := HLG.out; have := HLK.out; simp [Go.RowKit.intOf]; omega
          | false =>
            have HE : Hid (s'.lay k x = s.sink i x) := by rw [← H5.out, HS0.out, if_neg (fun e => by rw [ha] at e; cases e.2)]; exact rfl
            rw [ha] at HLE
            clear ha HS0 HLU2
            generalize gi2 s'.L (s'.low k) = q at *
            generalize s'.low k = p at *
            unfold itVal at HLE
            obtain ⟨q1, q2⟩ := q
            dsimp only at *
            ((first | refine wp_region_gen2 (by kernel_rfl) (by kernel_rfl) ?_ | refine wp_region_gen (by kernel_rfl) (by kernel_rfl) ?_); (repeat' (first | (refine gLex_val0 rfl (by kernel_rfl) (fun K hK => ?_); (go_simp; (try (simp only [↓IntWalk.iteOmega]; try go_simp)); (try simp (disch := omega) only [IntWalk.i64_in]); (try simp (disch := omega) only [IntWalk.u64_in]); first | (refine hK _ ?_; clear hK K) | (apply Exists.intro; refine ⟨fun x => ?_, hK _ ?_⟩; (first | (exact HLE.out _)); clear hK K))) | (refine gLex_undef rfl rfl rfl (by kernel_rfl) (fun K hK => ?_); go_simp; refine hK _ ?_; clear hK K) | (refine gLex_ask rfl rfl rfl ?_; first | (apply gAsk_yes; kernel_rfl; intro K hK; (go_simp; (try (simp only [↓IntWalk.iteOmega]; try go_simp)); (try simp (disch := omega) only [IntWalk.i64_in]); (try simp (disch := omega) only [IntWalk.u64_in]); first | (refine hK _ ?_; clear hK K) | (apply Exists.intro; refine ⟨fun x => ?_, hK _ ?_⟩; (first | (exact HLE.out _)); clear hK K))) | ((first | apply gAsk_no1 | apply gAsk_no2); kernel_rfl; intro K hK; simp [go_sem]; refine hK _ ?_; clear hK K) | (apply gAsk_part; kernel_rfl; all_goals (intro h K hK; (try simp only [Bool.not_true] at h); (try simp only [Bool.not_false] at h); (try simp only [decide_eq_true_eq] at h); (try simp only [decide_eq_false_iff_not] at h); first | (exfalso; first | contradiction | omega) | (go_simp; (try (simp only [↓IntWalk.iteOmega]; try go_simp)); (try simp (disch := omega) only [IntWalk.i64_in]); (try simp (disch := omega) only [IntWalk.u64_in]); first | (refine hK _ ?_; clear hK K) | (apply Exists.intro; refine ⟨fun x => ?_, hK _ ?_⟩; (first | (exact HLE.out _)); clear hK K))))))); all_goals ((apply gLex_end); intro z))
            go_wp2_with (go_at_call 162; refine (HLX.out _ GG).mono ?_; rintro e w' ⟨rfl, hp, ht⟩; have HPP := hide hp; have HTT := hide ht; clear hp ht)
            have hgz : Grows wr z.now := GG
            rw [Exit.noGoto_normal]
            go_end0
            exact ⟨rfl, HE.out ▸ HPP.out, (H6.out.grows hgz).trans HTT.out⟩
        · have hc1 : decide ((s'.L.length : Int) ≤ (s'.low k : Int)) = true := decide_eq_true (by omega)
          have hc2 : decide (s'.L.length ≤ s'.low k) = true := decide_eq_true (by omega)
          have HE : Hid (s'.lay k x = s.sink i x) := by rw [← H5.out, HS0.out, if_neg (fun e => hc e.1)]; exact rfl
          clear HLU HS0 hgt
          generalize s'.low k = p at *
          ((first | refine wp_region_gen2 (by kernel_rfl) (by kernel_rfl) ?_ | refine wp_region_gen (by kernel_rfl) (by kernel_rfl) ?_); (repeat' (first | (refine gLex_val0 rfl (by kernel_rfl) (fun K hK => ?_); (go_simp; (try (simp only [↓IntWalk.iteOmega]; try go_simp)); (try simp (disch := omega) only [IntWalk.i64_in]); (try simp (disch := omega) only [IntWalk.u64_in]); first | (refine hK _ ?_; clear hK K) | (apply Exists.intro; refine ⟨fun x => ?_, hK _ ?_⟩; (first | fail); clear hK K))) | (refine gLex_undef rfl rfl rfl (by kernel_rfl) (fun K hK => ?_); go_simp; refine hK _ ?_; clear hK K) | (refine gLex_ask rfl rfl rfl ?_; first | (apply gAsk_yes; kernel_rfl; intro K hK; (go_simp; (try (simp only [↓IntWalk.iteOmega]; try go_simp)); (try simp (disch := omega) only [IntWalk.i64_in]); (try simp (disch := omega) only [IntWalk.u64_in]); first | (refine hK _ ?_; clear hK K) | (apply Exists.intro; refine ⟨fun x => ?_, hK _ ?_⟩; (first | fail); clear hK K))) | ((first | apply gAsk_no1 | apply gAsk_no2); kernel_rfl; intro K hK; simp [go_sem]; refine hK _ ?_; clear hK K) | (apply gAsk_part; kernel_rfl; all_goals (intro h K hK; (try simp only [Bool.not_true] at h); (try simp only [Bool.not_false] at h); (try simp only [decide_eq_true_eq] at h); (try simp only [decide_eq_false_iff_not] at h); first | (exfalso; first | contradiction | omega) | (go_simp; (try (simp only [↓IntWalk.iteOmega]; try go_simp)); (try simp (disch := omega) only [IntWalk.i64_in]); (try simp (disch := omega) only [IntWalk.u64_in]); first | (refine hK _ ?_; clear hK K) | (apply Exists.intro; refine ⟨fun x => ?_, hK _ ?_⟩; (first | fail); clear hK K))))))); all_goals ((apply gLex_end); intro z))
          go_wp2_with (go_at_call 162; refine (HLX.out _ GG).mono ?_; rintro e w' ⟨rfl, hp, ht⟩; have HPP := hide hp; have HTT := hide ht; clear hp ht)
          have hgz : Grows wr z.now := GG
          rw [Exit.noGoto_normal]
          go_end0
          exact ⟨rfl, HE.out ▸ HPP.out, (H6.out.grows hgz).trans HTT.out⟩
end Go.Proofs.Ytgplpgldhoelcaa

namespace Go.Proofs.Ytgplpgldhoelcaa
open Go Go.RowKit
theorem gc_take_succ {L : List Chg} {k : Nat} (hk : k < L.length) : L.take (k + 1) = L.take k ++ [gc L k] := by
  rw [List.take_succ_eq_append_getElem hk]
  have : gc L k = L[k] := by simp [gc, hk]
  rw [this]
def GiveC (w : World) (t : TypeId) (L : List Chg) (e : Ending) (w' : World) : Prop := ∃ A c, e = .returned (.slice A L.length c) ∧ Own w' w.heap.size t 2 A L.length c (csCells L) ∧ Grows w w'
theorem cs_new {w : World} {g : Nat} {a b : Int} (h1 : Holds w ⟨g, 0, none⟩ (.int .i64 a)) (h2 : Holds w ⟨g, 1, none⟩ (.int .u64 b)) : ∀ j u, ([Value.int .i64 a, .int .u64 b] : List Value)[j]? = some u → w.cell? ⟨g, j, none⟩ = some u := by
  intro j u hu
  have hj : j < 2 := by have := (List.getElem?_eq_some_iff.1 hu).1; simpa using this
  match j, hj with
  | 0, _ => simp at hu; subst hu; exact h1.cell
  | 1, _ => simp at hu; subst hu; exact h2.cell
def Two (v u : Value) : Pr := fun x w => ∃ g, x = .slice (some ⟨g, 0, none⟩) 1 1 ∧ Holds w ⟨g, 0, none⟩ v ∧ Holds w ⟨g, 1, none⟩ u
theorem Two.lasts (v u : Value) : Lasts (Two v u) := fun _ _ _ hg ⟨g, e, h, h2⟩ => ⟨g, e, ⟨hg.keeps h.cell⟩, ⟨hg.keeps h2.cell⟩⟩
set_option maxRecDepth 20000 in
set_option maxHeartbeats 4000000 in
theorem law33of (B : Option Addr) (m d : Nat) (L : List Chg) (w : World) (hc : Rd w B 2 m (csCells L)) (hm : m ≤ 1000000) :
    Calls Try.prog 14 #[.slice B m d] w (GiveC w 100 L) := by
  have HLm := hide hc.clen
  have HC := hide hc
  clear hc
  go_enter Try.func14, Try.ntmps14
  go_wp2_with fail
  go_loopw [4, 3] (fun i u wr => ∃ k : Nat, k ≤ m ∧ i = .int .i64 (k : Int) ∧ ∃ y : Later w, wr = y.now ∧ ∃ A1 c1, u = .slice A1 k c1 ∧ Own y.now w.heap.size 100 2 A1 k c1 (csCells (L.take k))) (fun i _ _ => m - (intOf i).toNat)
  case atStart => exact ⟨0, by omega, by go_num, ⟨_, Grows.refl _⟩, rfl, none, 0, rfl, Own.nil _ _ _ _⟩
  case round =>
    obtain ⟨k, hk, rfl, y, rfl, A1, c1, rfl, hown⟩ := hrel
    have HO := hide hown
    clear hown
    by_cases hend : m ≤ k
    · have hkm : k = m := by omega
      subst hkm
      go_wp2
      go_ret
      refine ⟨A1, c1, by rw [HLm.out]; rfl, ?_, GG⟩
      have := HO.out
      rw [← HLm.out, List.take_length] at this
      rw [HLm.out] at this ⊢
      exact this
    · obtain ⟨b, off, rfl, hcc⟩ := HC.out.chgsH (by omega)
      obtain ⟨c2, c3⟩ := hcc k (by omega)
      clear hcc
      have HN := hide (gc_take_succ (L := L) (k := k) (by rw [HLm.out]; omega))
      generalize gc L k = x at *
      obtain ⟨e, v⟩ := x
      dsimp only at c2 c3
      go_wp2_with fail
      (refine wp_region_tail1 13 (by kernel_rfl) (by kernel_rfl) ?_; simp only [List.take_succ_cons, List.take_zero, List.drop_succ_cons, List.drop_zero]; (repeat' (first | (refine gLex_val0 rfl (by kernel_rfl) (fun K hK => ?_); (go_simp; (try (simp only [↓IntWalk.iteOmega]; try go_simp)); (try simp (disch := omega) only [IntWalk.i64_in]); (try simp (disch := omega) only [IntWalk.u64_in]); first | (refine hK _ ?_; clear hK K) | (apply Exists.intro; refine ⟨fun x => ?_, hK _ ?_⟩; (first | fail); clear hK K))) | (refine gLex_undef rfl rfl rfl (by kernel_rfl) (fun K hK => ?_); go_simp; refine hK _ ?_; clear hK K) | (refine gLex_ask rfl rfl rfl ?_; first | (apply gAsk_yes; kernel_rfl; intro K hK; (go_simp; (try (simp only [↓IntWalk.iteOmega]; try go_simp)); (try simp (disch := omega) only [IntWalk.i64_in]); (try simp (disch := omega) only [IntWalk.u64_in]); first | (refine hK _ ?_; clear hK K) | (apply Exists.intro; refine ⟨fun x => ?_, hK _ ?_⟩; (first | fail); clear hK K))) | ((first | apply gAsk_no1 | apply gAsk_no2); kernel_rfl; intro K hK; simp [go_sem]; refine hK _ ?_; clear hK K)))); refine gLex_prop rfl (by kernel_rfl) rfl (by simp) (Two (.int .i64 e) (.int .u64 v)) (Two.lasts _ _) (fun x => by (go_simp; exact ⟨(Grows.refl _).new _, _, rfl, inferInstance, inferInstance⟩)) ?_; refine gLex_endT1 (by simp) (fun x v hv => ?_); obtain ⟨gnew, rfl, hgnew, hgnew2⟩ := hv; simp only [Act.put, List.setIfInBounds_toArray, List.set_cons_zero, List.set_cons_succ])
      go_wp2_with (at_builtin; refine wp_appS elemChg rfl _ _ rfl w GG k c1 A1 _ rfl (HO.out.grows GG) _ _ [.int .i64 e, .int .u64 v] rfl rfl (cs_new hgnew hgnew2) (by intro u hu; simp at hu; rcases hu with rfl | rfl <;> rfl) (by omega) ?_; intro A3 c3 y3 hown3; have HO3 := hide hown3; clear hown3)
      refine ⟨⟨k + 1, by omega, by go_num, y3, rfl, A3, c3, rfl, ?_⟩, by simp [intOf]; omega⟩
      rw [HN.out, csCells_app]
      exact HO3.out
end Go.Proofs.Ytgplpgldhoelcaa

