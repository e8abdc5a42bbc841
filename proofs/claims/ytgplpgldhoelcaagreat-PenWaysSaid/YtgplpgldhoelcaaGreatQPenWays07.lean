/- Contract: a number with its key is put. -/
import Derived.Maps.AppendAt
import Derived.OrdersIn
import Derived.TacticsIn
import Derived.RangeFuncNested
import Derived.RangeFuncBound
import Derived.Shelf.Abstract
import Derived.Shelf.RegionOpen
import Derived.OwnWalkIn
import Derived.TacticsInMore
import Derived.LoopNIn
import Derived.LoopIn
import Derived.Test.YtgplpgldhoelcaaGreatQPenWays01
import Derived.Test.YtgplpgldhoelcaaGreatQPenWays04
import Derived.Test.YtgplpgldhoelcaaGreatQPenWays05
import Derived.Test.YtgplpgldhoelcaaGreatQPenWays06
namespace Go.Proofs.YtgplpgldhoelcaaGreat
open Go Go.RowKit
theorem elemItem : Elem 291 320 2 := by
  have h : (Tryz.prog.info? 320).map (fun i => (i.zero, i.size, i.bytes)) = some (some (.agg #[.int .i64 0, .int .u64 0]), 2, 16) := by kernel_rfl
  obtain ⟨i, hi, hz, hs, hb⟩ := info_parts h
  exact ⟨Tryz.underlying291, ⟨i, _, 16, hi, hz, hs, hb, rfl, by omega⟩, by omega⟩
section
variable {w : World} {e : TypeId} {ops : Array Oper} {o : Oper} {a : Act} {K : Act → World → Prop} {Q : Exit → Act → World → Prop} {F : Prop}
theorem step_appT {t : TypeId} {size : Nat} (E : Elem t e size) (hgd : o.guard = none) (s x : Operand) (ho : o.op = .call { callee := .builtin .append, args := #[s, x], argTypes := #[t, t] })
    (S : Nat → Prop) (n c : Nat) (A : Option Addr) (xs : List Value) (hs : a.eval s = .slice A n c) (hown : Own w 0 e size A n c xs) (hS : ∀ p, A = some p → S p.block) (g c' : Nat) (news : List Value) (hx : a.eval x = .slice (some ⟨g, 0, none⟩) 1 c')
    (hl : news.length = size) (hv : ∀ j u, news[j]? = some u → w.cell? ⟨g, j, none⟩ = some u) (h1 : ∀ u ∈ news, u.oneCell' = true) (hnm : n + 1 ≤ 1000000000000)
    (h : ∀ A' c'' w', Own w' 0 e size A' (n + 1) c'' (xs ++ news) → Touch (fun k => ∃ p, A = some p ∧ p.block = k) w w' → (∀ p, A' = some p → S p.block ∨ New w w' p.block) → K (a.put o.dst (.slice A' (n + 1) c'')) w') :
    if Region.wanted o (yielded ops a.tmps) = true then Oper.wp Tryz.prog o a w K Q else F := by
  obtain ⟨i, z, bytes, hi, hz, hsz, hby, hzs, hb64⟩ := E.info
  rw [if_pos (by simp [Region.wanted, hgd])]
  obtain ⟨v', w', hr, hown', hgr, _, hat⟩ := run_append_own_at (P := Tryz.prog) w 0 t o.type e i z size bytes E.under hi hz hsz hby hzs E.pos (.slice A n c) n xs hown ⟨g, 0, none⟩ 1 c' news (by omega) (fun j u hu => by rw [add_pl2, Nat.zero_add]; exact hv j u hu) h1 (by unfold maxLen; omega) (Nat.le_trans (Nat.mul_le_mul hnm hb64) (by omega)) (Nat.zero_le _)
  unfold Oper.wp execOp
  simp only [ho, resolve, invoke, builtin, Sem.run_bind, Sem.run_pure, Result.andThen_ok, List.map_toArray, List.map_cons, List.map_nil, hs, hx, hr]
  obtain ⟨A', c'', rfl⟩ := own_form hown'
  have hob : ∀ k, (Value.slice A n c).ownBlock = some k → S k := fun k hk => by
    cases A with
    | none => simp [Value.ownBlock] at hk
    | some p => simp [Value.ownBlock] at hk; subst hk; exact hS p rfl
  refine h A' c'' w' hown' ((Touch.refl _ w).grown hgr fun k hk => .inl (by
    cases A with
    | none => simp [Value.ownBlock] at hk
    | some p => simp [Value.ownBlock] at hk; exact ⟨p, rfl, hk⟩)) fun p hp => ?_
  subst hp
  simp only [Value.ownBlock] at hat
  rcases hat with hat | hat
  · exact .inl (hob _ hat.symm)
  · injection hat with hat
    exact .inr ⟨by omega, (World.ownsRow.lt hown' p.block rfl).2⟩
end
theorem Own.not_arr {w : World} {B n c size g : Nat} {e t : TypeId} {A : Option Addr} {xs cs : List Value} (h : Own w B e size A n c xs) (k : Arr w g t cs) (hne : e ≠ t) : ∀ p, A = some p → p.block ≠ g := by
  rintro p rfl
  rcases h.2 with ⟨h1, _⟩ | ⟨g', cap, cur, h1, _, h3, _⟩
  · cases h1
  · injection h1 with h1 _ _
    injection h1 with h1
    subst h1
    rintro rfl
    have := h3.symm.trans k.is
    injection this with this
    injection this with _ this
    exact hne this
theorem Own.not_row {w : World} {B n c size g n' c' size' : Nat} {e t : TypeId} {A : Option Addr} {xs cs : List Value} (h : Own w B e size A n c xs) (k : Row1 w g t size' n' c' cs) (hne : e ≠ t) : ∀ p, A = some p → p.block ≠ g := by
  rintro p rfl
  rcases h.2 with ⟨h1, _⟩ | ⟨g', cap, cur, h1, _, h3, _⟩
  · cases h1
  · injection h1 with h1 _ _
    injection h1 with h1
    subst h1
    rintro rfl
    obtain ⟨cur', h2, _⟩ := k.is
    have := h3.symm.trans h2
    injection this with this
    injection this with _ this
    exact hne this
def PutAt (w : World) (v key : Nat) (z : Int) (s7 s8 : Value) (wx : World) : Prop :=
  s8 = .int .i64 z ∧ ∃ y : Later w, wx = y.now ∧ s7 = .pointer (some ⟨w.heap.size, 0, none⟩) ∧ Arr y.now w.heap.size 320 [.int .i64 (v : Int), .int .u64 (key : Int)]
theorem put_rel {w wx : World} {v key : Nat} {z : Int} {s7 s8 : Value} (h8 : s8 = .int .i64 z) (hg : Grows w wx) (h7 : s7 = .pointer (some ⟨w.heap.size, 0, none⟩)) (ha : wx.heap[w.heap.size]? = some (.cells [Value.int .i64 (v : Int), .int .u64 (key : Int)].toArray 320 (0, 0))) : PutAt w v key z s7 s8 wx :=
  ⟨h8, ⟨wx, hg⟩, rfl, h7, ⟨ha⟩⟩
def GivePut (w : World) (S : Nat → Prop) (b : Nat) (s' : HS) (r : Bool) (e : Ending) (w' : World) : Prop :=
  e = .returned (.bool r) ∧ HpAt w' (fun k => S k ∨ New w w' k) b s' ∧ Touch S w w'
theorem Own.othr {w : World} {B n c size : Nat} {e : TypeId} {A : Option Addr} {xs : List Value} (h : Own w B e size A n c xs) {q : Addr} (hq : ∀ p, A = some p → p.block ≠ q.block) (u : Value) : Own (w.setCell q u) B e size A n c xs := by
  refine ⟨h.1, ?_⟩
  rcases h.2 with h1 | ⟨g, cap, cur, h1, h2, h3, h4⟩
  · exact .inl h1
  · refine .inr ⟨g, cap, cur, h1, h2, ?_, h4⟩
    rw [heap_setCell _ _ _ _ (hq ⟨g, 0, none⟩ (by injection h1))]
    exact h3
theorem put_in {s : HS} {N v key : Nat} (h : s.In N) (hv : v < N) : (⟨s.L ++ [(v, key)], s.T⟩ : HS).In N := by
  refine ⟨h.1, fun i hi => ?_⟩
  simp only [List.length_append, List.length_cons, List.length_nil] at hi
  unfold gi2
  by_cases he : i < s.L.length
  · rw [List.getD_eq_getElem?_getD, List.getElem?_append_left he, ← List.getD_eq_getElem?_getD]
    exact h.2 i he
  · rw [List.getD_eq_getElem?_getD, List.getElem?_append_right (by omega), show i - s.L.length = 0 by omega]
    exact hv
theorem put_mid {w Wp w2 : World} {S : Nat → Prop} {b c c2 G v key : Nat} {A A2 : Option Addr} {s : HS} (hgp : Grows w Wp) (r1 : Arr w b 293 [.slice A s.L.length c, .slice (some ⟨G, 0, none⟩) s.T.length s.T.length]) (r2 : Own w 0 320 2 A s.L.length c (its s.L))
    (r3 : Row1 w G 3 1 s.T.length s.T.length (s.T.map (.int .i64))) (s1 : S b) (s2 : S G) (ho : Own w2 0 320 2 A2 (s.L.length + 1) c2 (its s.L ++ [.int .i64 (v : Int), .int .u64 (key : Int)])) (ht : Touch (fun k => ∃ p, A = some p ∧ p.block = k) Wp w2)
    (hA : ∀ p, A2 = some p → S p.block ∨ New Wp w2 p.block) (h6 : ∀ p, A = some p → S p.block) :
    HpAt (w2.setCell ⟨b, 0, none⟩ (.slice A2 (s.L.length + 1) c2)) (fun k => S k ∨ New w (w2.setCell ⟨b, 0, none⟩ (.slice A2 (s.L.length + 1) c2)) k) b ⟨s.L ++ [(v, key)], s.T⟩ ∧ Touch S w (w2.setCell ⟨b, 0, none⟩ (.slice A2 (s.L.length + 1) c2)) := by
  have na := r2.not_arr r1 (by decide)
  have nb := r2.not_row r3 (by decide)
  have q1 : Arr w2 b 293 _ := (r1.grow hgp).touch ht fun ⟨p, hp, e⟩ => na p hp e
  have q3 := (r3.grow hgp).touch ht fun ⟨p, hp, e⟩ => nb p hp e
  have n2 := r3.ne r1 (by decide)
  refine ⟨⟨A2, c2, G, ?_, ?_, q3.other (Ne.symm n2) _, .inl s1, .inl s2, fun p hp => ?_⟩, ?_⟩
  · have := q1.set 0 (.slice A2 (s.L.length + 1) c2)
    simpa using this
  · have := ho.othr (q := ⟨b, 0, none⟩) (ho.not_arr q1 (by decide)) (.slice A2 (s.L.length + 1) c2)
    show Own _ _ _ _ _ (s.L ++ [(v, key)]).length _ (its (s.L ++ [(v, key)]))
    rw [its_app, List.length_append]
    exact this
  · rcases hA p hp with h | ⟨h, h'⟩
    · exact .inl h
    · exact .inr ⟨Nat.le_trans hgp.size h, by rw [size_setCell]; exact h'⟩
  · exact (((hgp.touch S).trans (ht.mono fun k ⟨p, hp, e⟩ => e ▸ h6 p hp))).set (.inl s1) _
set_option maxRecDepth 20000 in
set_option maxHeartbeats 4000000 in
theorem hpPut (b N : Nat) (s : HS) (v key : Nat) (S : Nat → Prop) (w : World) (h : HpAt w S b s) (hs : ∀ k, S k → k < w.heap.size) (hin : s.In N) (hv : v < N) (hz : gz s.T v = -1 ∨ 0 ≤ gz s.T v ∧ gz s.T v < s.L.length) (hl : s.L.length ≤ 90000) :
    Calls Tryz.prog 236 #[.pointer (some ⟨b, 0, none⟩), .int .i64 (v : Int), .int .u64 (key : Int)] w (GivePut w S b (s.put v key).1 (s.put v key).2) := by
  have hbx : ¬ S w.heap.size := fun e => by have := hs _ e; omega
  obtain ⟨A, c, G, r1, r2, r3, r4, r5, r6⟩ := h
  have hT := hin.1
  have m0 : Mine w ⟨G, v, none⟩ (.int .i64 (gz s.T v)) := r3.int (by omega)
  have R1 := hide r1
  have R2 := hide r2
  have R3 := hide r3
  have R6 := hide r6
  have HT := hide hT
  have HIN := hide hin
  have HSS := hide hs
  have HP : Hid (s.put v key = if gz s.T v = -1 then (HS.rise ⟨s.L ++ [(v, key)], s.T⟩ s.L.length (v, key), true) else if (gi2 s.L (gz s.T v).toNat).2 ≤ key then (s, false) else (s.rise (gz s.T v).toNat (v, key), true)) := rfl
  have hvT : v < s.T.length := by omega
  clear r2 r3 r6 hT hin hs
  generalize hzz : gz s.T v = z at *
  clear hzz
  go_enter Tryz.func236, Tryz.ntmps236
  go_upto_region 3 with fail
  go_cut [7, 8] (fun s7 s8 wx => PutAt w v key z s7 s8 wx)
  case first =>
    go_region_with fail
    all_goals go_wp2_with fail
    all_goals go_meet
    all_goals (case rel => exact put_rel rfl GG rfl (by simp [heap_drew, heap_push]))
  case rest =>
    obtain ⟨rfl, y, rfl, rfl, hax⟩ := hcut
    have hgy : Grows w y.now := y.grows
    by_cases h1 : z = -1
    · subst h1
      rw [if_pos rfl] at HP
      have q1 := r1.grow hgy
      have RR1 := hide q1
      have HNA := hide (R2.out.not_arr r1 (by decide))
      have HNB := hide (R2.out.not_row R3.out (by decide))
      go_wp2_with fail
      go_region_law (refine step_appT elemItem rfl _ _ rfl S _ c A _ rfl (R2.out.grows GG) R6.out _ _ [.int .i64 (v : Int), .int .u64 (key : Int)] rfl rfl (fun j u hu => by
        match j, hu with
        | 0, hu => simp at hu; subst hu; simp [go_sem]
        | 1, hu => simp at hu; subst hu; simp [go_sem]) (fun u hu => by simp at hu; rcases hu with rfl | rfl <;> rfl) (by omega) ?_; intro A2 c2 w2 hown2 ht2 hA2; have q2 := Arr.touch (Arr.grow r1 GG) ht2 (fun ⟨p, hp, e⟩ => HNA.out p hp e); have qm := put_mid (show Grows w _ from GG) r1 R2.out R3.out r4 r5 hown2 ht2 hA2 R6.out; have q4 : Arr w2 w.heap.size 320 _ := Arr.touch (Arr.grow hax GG) ht2 (fun ⟨p, hp, e⟩ => hbx (e ▸ R6.out p hp)); have HM := hide qm; clear qm hown2 ht2 hA2)
      all_goals
        have q5 := q4.other (p := ⟨b, 0, none⟩) (fun e => hbx (e ▸ r4)) (.slice A2 (s.L.length + 1) c2)
        have q6 := q2.set 0 (.slice A2 (s.L.length + 1) c2)
        simp only [List.set_cons_zero] at q6
        generalize w2.setCell ⟨b, 0, none⟩ (.slice A2 (s.L.length + 1) c2) = w3 at *
        have HMT := hide HM.out.2
        have HR := hide (fun (W : World) (hg : Grows w3 W) => hpRise b N ⟨s.L ++ [(v, key)], s.T⟩ s.L.length (v, key) (fun k => S k ∨ New w w3 k) W (HM.out.1.grow hg) (fun k hk => Nat.lt_of_lt_of_le (by
          rcases hk with hk | hk
          · exact Nat.lt_of_lt_of_le (HSS.out k hk) HMT.out.size
          · exact hk.2) hg.size) (put_in HIN.out hv) (by simp) hv (by simp; omega))
        unfold itVal at HR
        dsimp only at HR
        clear q2 q4
        go_wp2_with (go_at_call 255; refine (HR.out _ GG).mono ?_; rintro e w' ⟨rfl, hp, ht⟩; have HP4 := hide hp; have HT4 := hide ht; clear hp ht)
        go_ret
        rw [HP.out]
        exact ⟨rfl, HP4.out.mono (fun k hk => by
          rcases hk with hk | ⟨h1, h2⟩
          · exact .inl hk
          · exact .inr ⟨h1, Nat.lt_of_lt_of_le h2 HT4.out.size⟩), HMT.out.trans2 HT4.out (fun k hk => by
          rcases hk with hk | ⟨h1, h2⟩
          · exact .inl hk
          · exact .inr h1)⟩
    · obtain ⟨i, rfl⟩ : ∃ i : Nat, z = (i : Int) := ⟨z.toNat, by omega⟩
      have hi : i < s.L.length := by omega
      have hzb : ((i : Int) == -1) = false := beq_eq_false_iff_ne.2 h1
      rw [if_neg h1, Int.toNat_natCast] at HP
      have HQ0 := hide (show HpAt w S b s from ⟨A, c, G, r1, R2.out, R3.out, r4, r5, R6.out⟩)
      obtain ⟨g, rfl, m1, m2⟩ := R2.out.item hi
      have HQ := hide (fun (W : World) (hg : Grows w W) => hpRise b N s i (v, key) S W (HQ0.out.grow hg) (fun k hk => Nat.lt_of_lt_of_le (HSS.out k hk) hg.size) HIN.out hi hv (by omega))
      unfold itVal at HQ
      dsimp only at HQ
      generalize gi2 s.L i = q at *
      obtain ⟨q1, q2⟩ := q
      dsimp only at *
      by_cases hle : q2 ≤ key
      · have hd : decide ((q2 : Int) ≤ (key : Int)) = true := decide_eq_true (by omega)
        have hd2 : decide (q2 ≤ key) = true := decide_eq_true hle
        rw [if_pos hle] at HP
        clear hle h1 hz
        go_wp2_with fail
        go_ret
        rw [HP.out]
        have hgz : Grows w y.now := GG
        exact ⟨rfl, (HQ0.out.grow hgz).mono (fun k hk => .inl hk), hgz.touch S⟩
      · have hd : decide ((q2 : Int) ≤ (key : Int)) = false := decide_eq_false (by omega)
        have hd2 : decide (q2 ≤ key) = false := decide_eq_false hle
        rw [if_neg hle] at HP
        clear hle h1 hz
        go_wp2_with (go_at_call 255; refine (HQ.out _ GG).mono ?_; rintro e w' ⟨rfl, hp, ht⟩; have HP4 := hide hp; have HT4 := hide ht; clear hp ht)
        go_ret
        rw [HP.out]
        have hgz : Grows w y.now := GG
        exact ⟨rfl, HP4.out.mono (fun k hk => .inl hk), (hgz.touch S).trans HT4.out⟩
end Go.Proofs.YtgplpgldhoelcaaGreat

namespace Go.Proofs.YtgplpgldhoelcaaGreat
open Go Go.RowKit
theorem hpLen (b : Nat) (A : Option Addr) (n c : Nat) (u : Value) (w : World) (h : Arr w b 293 [.slice A n c, u]) : Calls Tryz.prog 261 #[.pointer (some ⟨b, 0, none⟩)] w fun e w' => e = .returned (.int .i64 (n : Int)) ∧ w = w' := by
  go_enter Tryz.func261, Tryz.ntmps261
  go_wp2
  go_ret
  exact ⟨rfl, rfl⟩
theorem hpWhere (b : Nat) (A : Option Addr) (n c G N v : Nat) (T : List Int) (w : World) (h : Arr w b 293 [.slice A n c, .slice (some ⟨G, 0, none⟩) N N]) (ht : Row1 w G 3 1 N N (T.map (.int .i64))) (hv : v < N) :
    Calls Tryz.prog 270 #[.pointer (some ⟨b, 0, none⟩), .int .i64 (v : Int)] w fun e w' => e = .returned (.int .i64 (gz T v)) ∧ w = w' := by
  have m0 : Mine w ⟨G, v, none⟩ (.int .i64 (gz T v)) := ht.int hv
  clear ht
  go_enter Tryz.func270, Tryz.ntmps270
  go_wp2
  go_ret
  exact ⟨rfl, rfl⟩
theorem Own.cut {w : World} {B n c m size : Nat} {e : TypeId} {A : Option Addr} {xs : List Value} (h : Own w B e size A n c xs) (hm : m ≤ n) (hn : 0 < n) : Own w B e size A m c (xs.take (m * size)) := by
  obtain ⟨g, cur, rfl, hB, hh, hc, hs, ht⟩ := h.at_ hn
  have hl := h.len
  have hmm : m * size ≤ n * size := Nat.mul_le_mul_right _ hm
  have hcm : c ≤ maxLen := by
    rcases h.2 with ⟨h1, _⟩ | ⟨g2, cap, cur2, h1, _, _, _, h5, _⟩
    · cases h1
    · injection h1 with _ _ h7; subst h7; exact h5
  refine ⟨by rw [List.length_take]; omega, .inr ⟨g, c, cur, rfl, hB, hh, by omega, hcm, hs, ?_⟩⟩
  rw [← ht, List.take_take]
  congr 1
  omega
theorem its_take (L : List Itm) (m : Nat) : its (L.take m) = (its L).take (m * 2) := by
  induction L generalizing m with
  | nil => simp [its]
  | cons x L ih =>
    cases m with
    | zero => simp [its]
    | succ m =>
      have := ih m
      show itCells x ++ its (L.take m) = (itCells x ++ its L).take ((m + 1) * 2)
      have e1 : List.take ((m + 1) * 2) (itCells x) = itCells x := List.take_of_length_le (by show 2 ≤ _; omega)
      have e2 : (m + 1) * 2 - (itCells x).length = m * 2 := by show (m + 1) * 2 - 2 = _; omega
      rw [this, List.take_append, e1, e2]
theorem drop_mid {w Wp : World} {S : Nat → Prop} {b c G v last : Nat} {A : Option Addr} {s : HS} (r1 : Arr w b 293 [.slice A s.L.length c, .slice (some ⟨G, 0, none⟩) s.T.length s.T.length]) (r2 : Own w 0 320 2 A s.L.length c (its s.L))
    (r3 : Row1 w G 3 1 s.T.length s.T.length (s.T.map (.int .i64))) (s1 : S b) (s2 : S G) (h6 : ∀ p, A = some p → S p.block) (hg : Grows (w.setCell ⟨G, v, none⟩ (.int .i64 (-1))) Wp) (hl : last ≤ s.L.length) (h0 : 0 < s.L.length) :
    HpAt (Wp.setCell ⟨b, 0, none⟩ (.slice A last c)) S b ⟨s.L.take last, s.T.set v (-1)⟩ ∧ Touch S w (Wp.setCell ⟨b, 0, none⟩ (.slice A last c)) ∧ Arr Wp b 293 [.slice A s.L.length c, .slice (some ⟨G, 0, none⟩) s.T.length s.T.length] := by
  have n2 := r3.ne r1 (by decide)
  have nb := r2.not_row r3 (by decide)
  have q1 := ((r1.other (p := ⟨G, v, none⟩) n2 (.int .i64 (-1))).grow hg)
  have q2 := ((r2.othr (q := ⟨G, v, none⟩) nb (.int .i64 (-1))).grows hg)
  have q3 := ((r3.set v (.int .i64 (-1))).grow hg)
  have e1 : (s.L.take last).length = last := by simp; omega
  refine ⟨⟨A, c, G, ?_, ?_, ?_, s1, s2, h6⟩, ?_, q1⟩
  · have := q1.set 0 (.slice A last c)
    show Arr _ _ _ [.slice A (s.L.take last).length c, .slice (some ⟨G, 0, none⟩) (s.T.set v (-1)).length (s.T.set v (-1)).length]
    rw [e1, List.length_set]
    exact this
  · have := (q2.cut hl h0).othr (q := ⟨b, 0, none⟩) ((q2.cut hl h0).not_arr q1 (by decide)) (.slice A last c)
    show Own _ _ _ _ _ (s.L.take last).length _ (its (s.L.take last))
    rw [e1, its_take]
    exact this
  · have := q3.other (p := ⟨b, 0, none⟩) (Ne.symm n2) (.slice A last c)
    show Row1 _ _ _ _ (s.T.set v (-1)).length (s.T.set v (-1)).length _
    rw [List.length_set, List.map_set]
    exact this
  · exact ((((Touch.refl S w).set (.inl s2) _).grows hg)).set (.inl s1) _
theorem drop_in {s : HS} {N last : Nat} (h : s.In N) (v : Nat) : (⟨s.L.take last, s.T.set v (-1)⟩ : HS).In N := by
  refine ⟨by simp [h.1], fun i hi => ?_⟩
  simp at hi
  unfold gi2
  rw [List.getD_eq_getElem?_getD, List.getElem?_take, if_pos (by omega), ← List.getD_eq_getElem?_getD]
  exact h.2 i (by omega)
set_option maxRecDepth 20000 in
set_option maxHeartbeats 4000000 in
theorem hpDrop (b N : Nat) (s : HS) (v i : Nat) (S : Nat → Prop) (w : World) (h : HpAt w S b s) (hs : ∀ k, S k → k < w.heap.size) (hin : s.In N) (hv : v < N) (hz : gz s.T v = (i : Int)) (hi : i < s.L.length) (hl : s.L.length ≤ 90000) :
    Calls Tryz.prog 256 #[.pointer (some ⟨b, 0, none⟩), .int .i64 (v : Int)] w fun e w' => e = .returned (.bool true) ∧ HpAt w' S b (s.drop v) ∧ Touch S w w' := by
  have hbx : ¬ S w.heap.size := fun e => by have := hs _ e; omega
  obtain ⟨A, c, G, r1, r2, r3, r4, r5, r6⟩ := h
  have hT := hin.1
  have m0 : Mine w ⟨G, v, none⟩ (.int .i64 (gz s.T v)) := r3.int (by omega)
  rw [hz] at m0
  have hvT : v < s.T.length := by omega
  have HW := hide (fun W => hpWhere b A s.L.length c G s.T.length v s.T W)
  rw [hz] at HW
  obtain ⟨n, hn⟩ : ∃ n, s.L.length = n + 1 := ⟨s.L.length - 1, by omega⟩
  obtain ⟨g, rfl, m1, m2⟩ := r2.item (i := n) (by omega)
  have HD : Hid (s.drop v = if i = n then ⟨s.L.take n, s.T.set v (-1)⟩ else if gz ((⟨s.L.take n, s.T.set v (-1)⟩ : HS).sink i (gi2 s.L n)).T (gi2 s.L n).1 = (i : Int) then ((⟨s.L.take n, s.T.set v (-1)⟩ : HS).sink i (gi2 s.L n)).rise i (gi2 s.L n) else (⟨s.L.take n, s.T.set v (-1)⟩ : HS).sink i (gi2 s.L n)) := by
    show _ = _
    unfold HS.drop
    rw [hz, hn, Nat.add_sub_cancel, Int.toNat_natCast]
  have hcap : n + 1 ≤ c := by
    obtain ⟨_, _, _, _, _, hc, _⟩ := r2.at_ (by omega)
    omega
  have hb0 : ((i : Int) == -1) = false := beq_eq_false_iff_ne.2 (by omega)
  have n1 := r3.ne r1 (by decide)
  have n3 := r2.not_row r3 (by decide) _ rfl
  have hgG : ¬ G = g := fun e => n3 e.symm
  have HIN := hide hin
  have HI2 : Hid ((⟨s.L.take n, s.T.set v (-1)⟩ : HS).In N) := drop_in hin v
  have HSS := hide hs
  have hxN : (gi2 s.L n).1 < N := hin.2 n (by omega)
  have hiB : i ≤ 90000 := by omega
  have hin1 : i ≤ n := by omega
  have hin0 : 0 < s.L.length := by omega
  have hnl : n ≤ s.L.length := by omega
  have HWW := hide (HW.out w r1 r3 hvT)
  have HMID := hide (fun (Wp : World) (hg : Grows (w.setCell ⟨G, v, none⟩ (.int .i64 (-1))) Wp) => drop_mid (S := S) (v := v) (last := n) r1 r2 r3 r4 r5 r6 hg hnl hin0)
  have p1 := r1.other (p := ⟨G, v, none⟩) n1 (.int .i64 (-1))
  have p2 := m1.set_other (q := ⟨G, v, none⟩) (.int .i64 (-1)) (by intro e; injection e with e; exact hgG e)
  have p3 := m2.set_other (q := ⟨G, v, none⟩) (.int .i64 (-1)) (by intro e; injection e with e; exact hgG e)
  have HN := hide hn
  rw [hn] at p1 hi hl
  have R1 := hide r1
  clear hin hs hz r2 r3 r6 HW hT hn hin0 hnl m1 m2 n1 n3
  by_cases hin2 : i = n
  · subst hin2
    rw [if_pos rfl] at HD
    go_enter Tryz.func256, Tryz.ntmps256
    go_wp2_with (go_at_call 270; refine (HWW.out).mono ?_; rintro e w' ⟨rfl, rfl⟩)
    go_ret
    have hm := HMID.out _ ((Grows.refl (w.setCell ⟨G, v, none⟩ (.int .i64 (-1)))).new (.cells #[.int .i64 ((gi2 s.L i).1 : Int), .int .u64 ((gi2 s.L i).2 : Int)] 320))
    exact ⟨rfl, HD.out ▸ hm.1, hm.2.1⟩
  · rw [if_neg hin2] at HD
    have hb1 : ((i : Int) == (n : Int)) = false := beq_eq_false_iff_ne.2 (by omega)
    have hb2 : (i == n) = false := beq_eq_false_iff_ne.2 hin2
    have hbz : w.heap.size ≠ b := fun e => hbx (e ▸ r4)
    go_enter Tryz.func256, Tryz.ntmps256
    go_upto_region 10 with (go_at_call 270; refine (HWW.out).mono ?_; rintro e w' ⟨rfl, rfl⟩)
    have hm := HMID.out _ ((Grows.refl (w.setCell ⟨G, v, none⟩ (.int .i64 (-1)))).new (.cells #[.int .i64 ((gi2 s.L n).1 : Int), .int .u64 ((gi2 s.L n).2 : Int)] 320))
    have q5 : Arr (((w.setCell ⟨G, v, none⟩ (.int .i64 (-1))).alloc (.cells #[.int .i64 ((gi2 s.L n).1 : Int), .int .u64 ((gi2 s.L n).2 : Int)] 320)).setCell ⟨b, 0, none⟩ (.slice (some ⟨g, 0, none⟩) n c)) w.heap.size 320 [.int .i64 ((gi2 s.L n).1 : Int), .int .u64 ((gi2 s.L n).2 : Int)] :=
      Arr.other (by
        have h := Arr.make (w.setCell ⟨G, v, none⟩ (.int .i64 (-1))) [Value.int .i64 ((gi2 s.L n).1 : Int), .int .u64 ((gi2 s.L n).2 : Int)] 320
        rw [size_setCell] at h
        exact h) (Ne.symm hbz) _
    generalize ((w.setCell ⟨G, v, none⟩ (.int .i64 (-1))).alloc (.cells #[.int .i64 ((gi2 s.L n).1 : Int), .int .u64 ((gi2 s.L n).2 : Int)] 320)).setCell ⟨b, 0, none⟩ (.slice (some ⟨g, 0, none⟩) n c) = W3 at *
    obtain ⟨e1, e2, _⟩ := hm
    have hin3 : i < (⟨s.L.take n, s.T.set v (-1)⟩ : HS).L.length := by have := HN.out; simp; omega
    have hln : (⟨s.L.take n, s.T.set v (-1)⟩ : HS).L.length ≤ 90000 := by simp; omega
    generalize (⟨s.L.take n, s.T.set v (-1)⟩ : HS) = s1 at *
    have HT2 := hide e2
    have HS1 := hide (HS.sink_in HI2.out i (gi2 s.L n) hxN)
    have HSK := hide (fun (W : World) (hg : Grows W3 W) => hpSink b N s1 i (gi2 s.L n) S W (e1.grow hg) (fun k hk => Nat.lt_of_lt_of_le (HSS.out k hk) (Nat.le_trans HT2.out.size hg.size)) HI2.out hin3 hxN (by omega))
    generalize gi2 s.L n = x at *
    unfold itVal at HSK
    obtain ⟨x1, x2⟩ := x
    dsimp only at *
    clear e1 e2 m0 p1 p2 p3 r1 hin2 hb1 hb2
    have HL1 := hide hin3
    clear hin3
    go_wp2_with (go_at_call 271; refine (HSK.out _ GG).mono ?_; rintro e w4 ⟨rfl, hp, ht⟩; have q6 := q5.touch ht hbx; have HP4 := hide hp; have HT4 := hide ht; clear hp ht)
    have hi2 := HS1.out
    generalize s1.sink i (x1, x2) = s2 at *
    obtain ⟨hi3, hi4⟩ := hi2
    obtain ⟨A', c', G', t1, t2, t3, t4, t5, t6⟩ := HP4.out
    have mm : Mine w4 ⟨G', x1, none⟩ (.int .i64 (gz s2.T x1)) := t3.int (by rw [hi3.1]; exact hxN)
    have HRI := hide (fun (W : World) (hg : Grows w4 W) => hpRise b N s2 i (x1, x2) S W (HP4.out.grow hg) (fun k hk => Nat.lt_of_lt_of_le (HSS.out k hk) (Nat.le_trans HT2.out.size (Nat.le_trans HT4.out.size hg.size))) hi3 (by rw [hi4]; exact HL1.out) hxN (by omega))
    unfold itVal at HRI
    dsimp only at HRI
    have hx1 : x1 < s2.T.length := by rw [hi3.1]; exact hxN
    clear hi3 hi4 t2 t3 t6
    generalize gz s2.T x1 = z at *
    by_cases hzi : z = (i : Int)
    · subst hzi
      rw [if_pos rfl] at HD
      ((first | refine wp_region_gen2 (by kernel_rfl) (by kernel_rfl) ?_ | refine wp_region_gen (by kernel_rfl) (by kernel_rfl) ?_); (repeat' ((first | refine gLex_val0 rfl (by kernel_rfl) (fun K hK => ?_) | refine gLex_undef rfl rfl rfl (by kernel_rfl) (fun K hK => ?_) | (refine gLex_ask rfl rfl rfl ?_; first | (apply gAsk_yes; kernel_rfl; intro K hK) | ((first | apply gAsk_no1 | apply gAsk_no2); kernel_rfl; intro K hK) | (apply gAsk_part; kernel_rfl; all_goals (intro h K hK; (try simp only [Bool.not_true, Bool.not_false, decide_eq_true_eq, decide_eq_false_iff_not] at h); try (exfalso; first | contradiction | omega))))) <;> (go_simp; (try (simp only [↓IntWalk.iteOmega]; try go_simp)); (try simp (disch := omega) only [IntWalk.i64_in, IntWalk.u64_in]); refine hK _ ?_; clear hK K))); all_goals ((apply gLex_end); intro y))
      go_wp2_with (go_at_call 255; refine (HRI.out _ GG).mono ?_; rintro e w' ⟨rfl, hp, ht⟩; have HP5 := hide hp; have HT5 := hide ht; clear hp ht)
      have hgy : Grows w4 y.now := GG
      go_ret
      exact ⟨rfl, HD.out ▸ HP5.out, (HT2.out.trans ((HT4.out.grows hgy).trans HT5.out))⟩
    · rw [if_neg hzi] at HD
      have hb : (z == (i : Int)) = false := beq_eq_false_iff_ne.2 hzi
      clear hzi
      ((first | refine wp_region_gen2 (by kernel_rfl) (by kernel_rfl) ?_ | refine wp_region_gen (by kernel_rfl) (by kernel_rfl) ?_); (repeat' ((first | refine gLex_val0 rfl (by kernel_rfl) (fun K hK => ?_) | refine gLex_undef rfl rfl rfl (by kernel_rfl) (fun K hK => ?_) | (refine gLex_ask rfl rfl rfl ?_; first | (apply gAsk_yes; kernel_rfl; intro K hK) | ((first | apply gAsk_no1 | apply gAsk_no2); kernel_rfl; intro K hK) | (apply gAsk_part; kernel_rfl; all_goals (intro h K hK; (try simp only [Bool.not_true, Bool.not_false, decide_eq_true_eq, decide_eq_false_iff_not] at h); try (exfalso; first | contradiction | omega))))) <;> (go_simp; (try (simp only [↓IntWalk.iteOmega]; try go_simp)); (try simp (disch := omega) only [IntWalk.i64_in, IntWalk.u64_in]); refine hK _ ?_; clear hK K))); all_goals ((apply gLex_end); intro y))
      go_wp2_with fail
      have hgy : Grows w4 y.now := GG
      go_ret
      exact ⟨rfl, HD.out ▸ HP4.out.grow hgy, (HT2.out.trans (HT4.out.grows hgy))⟩
def GivePop (w : World) (S : Nat → Prop) (b : Nat) (s : HS) (e : Ending) (w' : World) : Prop :=
  e = .returned (.tuple #[.int .i64 ((gi2 s.L 0).1 : Int), .int .u64 ((gi2 s.L 0).2 : Int), .bool true]) ∧ HpAt w' S b (s.drop (gi2 s.L 0).1) ∧ Touch S w w'
set_option maxHeartbeats 2000000 in
theorem hpTopNo (b : Nat) (s : HS) (S : Nat → Prop) (w : World) (h : HpAt w S b s) (h0 : s.L.length = 0) :
    Calls Tryz.prog 244 #[.pointer (some ⟨b, 0, none⟩)] w fun e w' => e = .returned (.tuple #[.int .i64 0, .int .u64 0, .bool false]) ∧ Grows w w' := by
  obtain ⟨A, c, G, r1, r2, r3, r4, r5, r6⟩ := h
  rw [h0] at r1
  have C := hide (hpLen b A 0 c _ w r1)
  clear r2 r3 r6
  go_enter Tryz.func244, Tryz.ntmps244
  go_wp2_with (go_at_call 261; refine (C.out).mono ?_; rintro e w' ⟨rfl, rfl⟩)
  refine bodyPost_ret (v := .tuple #[.int .i64 0, .int .u64 0, .bool false]) (by simp [results, Tryz.results244, go_sem]) rfl ⟨rfl, GG⟩
set_option maxHeartbeats 2000000 in
theorem hpTop (b : Nat) (s : HS) (S : Nat → Prop) (w : World) (h : HpAt w S b s) (h0 : 0 < s.L.length) :
    Calls Tryz.prog 244 #[.pointer (some ⟨b, 0, none⟩)] w fun e w' => e = .returned (.tuple #[.int .i64 ((gi2 s.L 0).1 : Int), .int .u64 ((gi2 s.L 0).2 : Int), .bool true]) ∧ Grows w w' := by
  obtain ⟨A, c, G, r1, r2, r3, r4, r5, r6⟩ := h
  obtain ⟨g, rfl, m1, m2⟩ := r2.item h0
  rw [Nat.zero_mul] at m1 m2
  have C := hide (hpLen b (some ⟨g, 0, none⟩) s.L.length c _ w r1)
  have hb : ((s.L.length : Int) == 0) = false := beq_eq_false_iff_ne.2 (by omega)
  clear r2 r3 r6
  generalize gi2 s.L 0 = q at *
  obtain ⟨q1, q2⟩ := q
  dsimp only at *
  go_enter Tryz.func244, Tryz.ntmps244
  go_wp2_with (go_at_call 261; refine (C.out).mono ?_; rintro e w' ⟨rfl, rfl⟩)
  ((first | refine wp_region_gen2 (by kernel_rfl) (by kernel_rfl) ?_ | refine wp_region_gen (by kernel_rfl) (by kernel_rfl) ?_); (repeat' ((first | refine gLex_val0 rfl (by kernel_rfl) (fun K hK => ?_) | refine gLex_undef rfl rfl rfl (by kernel_rfl) (fun K hK => ?_) | (refine gLex_ask rfl rfl rfl ?_; first | (apply gAsk_yes; kernel_rfl; intro K hK) | ((first | apply gAsk_no1 | apply gAsk_no2); kernel_rfl; intro K hK) | (apply gAsk_part; kernel_rfl; all_goals (intro h K hK; (try simp only [Bool.not_true, Bool.not_false, decide_eq_true_eq, decide_eq_false_iff_not] at h); try (exfalso; first | contradiction | omega))))) <;> (go_simp; (try (simp only [↓IntWalk.iteOmega]; try go_simp)); (try simp (disch := omega) only [IntWalk.i64_in, IntWalk.u64_in]); refine hK _ ?_; clear hK K))); all_goals ((apply gLex_end); intro y))
  go_wp2_with fail
  refine bodyPost_ret (v := .tuple #[.int .i64 (q1 : Int), .int .u64 (q2 : Int), .bool true]) (by simp [results, Tryz.results244, go_sem]) rfl ⟨rfl, GG⟩
set_option maxHeartbeats 2000000 in
theorem hpPopNo (b : Nat) (s : HS) (S : Nat → Prop) (w : World) (h : HpAt w S b s) (h0 : s.L.length = 0) :
    Calls Tryz.prog 237 #[.pointer (some ⟨b, 0, none⟩)] w fun e w' => e = .returned (.tuple #[.int .i64 0, .int .u64 0, .bool false]) ∧ Grows w w' := by
  have C := hide (hpTopNo b s S w h h0)
  clear h
  go_enter Tryz.func237, Tryz.ntmps237
  go_wp2_with (go_at_call 244; refine (C.out).mono ?_; rintro e w' ⟨rfl, hg⟩; obtain ⟨y, rfl⟩ := hg.later; clear hg)
  refine bodyPost_ret (v := .tuple #[.int .i64 0, .int .u64 0, .bool false]) (by simp [results, Tryz.results237, go_sem]) rfl ⟨rfl, GG⟩
set_option maxHeartbeats 2000000 in
theorem hpPop (b N : Nat) (s : HS) (S : Nat → Prop) (i : Nat) (w : World) (h : HpAt w S b s) (hs : ∀ k, S k → k < w.heap.size) (hin : s.In N) (h0 : 0 < s.L.length) (hz : gz s.T (gi2 s.L 0).1 = (i : Int)) (hi : i < s.L.length) (hl : s.L.length ≤ 90000) :
    Calls Tryz.prog 237 #[.pointer (some ⟨b, 0, none⟩)] w (GivePop w S b s) := by
  unfold GivePop
  have C := hide (hpTop b s S w h h0)
  have D := hide (fun (W : World) (hg : Grows w W) => hpDrop b N s (gi2 s.L 0).1 i S W (h.grow hg) (fun k hk => Nat.lt_of_lt_of_le (hs k hk) hg.size) hin (hin.2 0 h0) hz hi hl)
  clear h hs hin hz
  generalize gi2 s.L 0 = q at *
  obtain ⟨q1, q2⟩ := q
  dsimp only at *
  go_enter Tryz.func237, Tryz.ntmps237
  go_wp2_with (first
    | (go_at_call 244; refine (C.out).mono ?_; rintro e w' ⟨rfl, hg⟩; obtain ⟨y, rfl⟩ := hg.later; clear hg)
    | (go_at_call 256; refine (D.out _ GG).mono ?_; rintro e w' ⟨rfl, hp, ht⟩; have HP := hide hp; have HT := hide ht; clear hp ht))
  have hgy : Grows w y.now := y.grows
  exact bodyPost_ret (v := .tuple #[.int .i64 (q1 : Int), .int .u64 (q2 : Int), .bool true]) (by simp [results, Tryz.results237, go_sem]) rfl ⟨rfl, HP.out, (hgy.touch S).trans HT.out⟩
end Go.Proofs.YtgplpgldhoelcaaGreat

namespace Go.Proofs.YtgplpgldhoelcaaGreat
open Go Go.RowKit
theorem run_makeU64s (n : Nat) (hn : n ≤ 1000000000) (w : World) : (Instr.makeSlice 82 (.int .i64 (n : Int)) (.int .i64 (n : Int))).run Tryz.prog w = .ok (.slice (some ⟨w.heap.size, 0, none⟩) n n) (w.alloc (.cells (List.replicate n (Value.int .u64 0)).toArray 41)) := by
  obtain ⟨i, h1, h2, h3, h4⟩ := elemU64.info
  have := run_make_row (P := Tryz.prog) 82 41 i (.int .u64 0) Tryz.underlying82 h1 h2 h3 rfl .i64 .i64 n (by have := Nat.mul_le_mul h4 hn; omega) (by omega) w
  have e : madeCells #[Value.int .u64 0] n = (List.replicate n (Value.int .u64 0)).toArray := Array.ext' (by rw [toList_madeCells_one])
  rw [e] at this
  exact this
theorem scs_rep (n : Nat) : ∀ k, k < n * 2 → (scs (List.replicate n (0, 0)))[k]? = some (.int .u64 0) := by
  intro k hk
  have e : k = k / 2 * 2 + k % 2 := (Nat.div_add_mod' k 2).symm
  have h := scs_at (List.replicate n (0, 0)) (k / 2) (k % 2) (by simp; omega) (Nat.mod_lt _ (by omega))
  rw [← e] at h
  rw [h]
  have hg : gp (List.replicate n (0, 0)) (k / 2) = (0, 0) := by
    unfold gp
    rw [List.getD_eq_getElem?_getD, List.getElem?_replicate]
    split <;> rfl
  rw [hg]
  rcases (by omega : k % 2 = 0 ∨ k % 2 = 1) with e | e <;> rw [e] <;> rfl
theorem made_two (n : Nat) : madeCells #[Value.int .u64 0, .int .u64 0] (n * 2) = (scs (List.replicate n (0, 0))).toArray := by
  apply Array.ext'
  apply List.ext_getElem?
  intro k
  by_cases hk : k < n * 2
  · rw [scs_rep n k hk]
    rcases (by omega : k % 2 = 0 ∨ k % 2 = 1) with e | e <;> simp [madeCells, hk, e]
  · rw [List.getElem?_eq_none (by simp [madeCells]; omega), List.getElem?_eq_none (by rw [scs_len]; simp; omega)]
theorem run_makeSt (n : Nat) (hn : n ≤ 1000000000) (w : World) : (Instr.makeSlice 288 (.int .i64 (n : Int)) (.int .i64 (n : Int))).run Tryz.prog w = .ok (.slice (some ⟨w.heap.size, 0, none⟩) n n) (w.alloc (.cells (scs (List.replicate n (0, 0))).toArray 331)) := by
  have h : (Tryz.prog.info? 331).map (fun i => (i.zero, i.size, i.bytes)) = some (some (.agg #[.int .u64 0, .int .u64 0]), 2, 16) := by kernel_rfl
  obtain ⟨i, hi, hz, hs, hb⟩ := info_parts h
  have := run_make (P := Tryz.prog) w 288 331 i _ Tryz.underlying288 hi hz .i64 .i64 (n : Int) (n : Int) (by omega) (Int.le_refl _) (by rw [hb]; omega) (by omega)
  rw [Int.toNat_natCast, hs] at this
  rw [this, ← made_two n]
  rfl
set_option maxHeartbeats 1000000 in
theorem stNew (n : Nat) (w : World) (hn : n ≤ 65536) : Calls Tryz.prog 199 #[.int .i64 (n : Int)] w fun e w' => ∃ b g, e = .returned (.pointer (some ⟨b, 0, none⟩)) ∧ StL w' b g (List.replicate n (0, 0)) 0 ∧ w.heap.size ≤ b ∧ b < w'.heap.size ∧ w.heap.size ≤ g ∧ g < w'.heap.size ∧ Grows w w' := by
  have mk := run_makeSt n (by omega)
  go_enter Tryz.func199, Tryz.ntmps199
  go_wp2_with fail
  go_ret
  refine ⟨w.heap.size + 1, w.heap.size, rfl, ⟨⟨?_⟩, Row1.grow (Arr.row (Arr.make _ _ _) (by simp [scs_len]) (by simp; omega)) ((Grows.refl _).new _)⟩, by omega, by simp, by omega, by simp; omega, GG⟩
  simp [heap_push, Array.getElem_push]
set_option maxHeartbeats 1000000 in
theorem bitsNew (n : Nat) (w : World) (hn : n ≤ 65536) : Calls Tryz.prog 232 #[.int .i64 (n : Int)] w fun e w' => ∃ b g, e = .returned (.pointer (some ⟨b, 0, none⟩)) ∧ BtAt w' b g n (List.replicate ((n + 63) / 64) 0) ∧ w.heap.size ≤ b ∧ b < w'.heap.size ∧ w.heap.size ≤ g ∧ g < w'.heap.size ∧ Grows w w' := by
  obtain ⟨q, hq⟩ : ∃ q, (n + 63) / 64 = q := ⟨_, rfl⟩
  have hqi : ((n : Int) + 63) / 64 = (q : Int) := by omega
  have hqi2 : ((n : Int) + 64 - 1) / 64 = (q : Int) := by omega
  have hqb : q ≤ 65536 := by omega
  have hroom : n ≤ q * 64 := by omega
  have mk := run_makeU64s q (by omega)
  have HQ := hide hq
  clear hq
  go_enter Tryz.func232, Tryz.ntmps232
  go_wp2_with fail
  go_ret
  rw [HQ.out]
  have e0 : wv (List.replicate q 0) = List.replicate q (Value.int .u64 0) := by simp [wv]
  have e1 : (List.replicate q 0).length = q := List.length_replicate
  refine ⟨w.heap.size + 1, w.heap.size, rfl, ⟨⟨?_⟩, ?_, by rw [e1]; exact hroom, fun j hj => ?_⟩, by omega, by simp, by omega, by simp; omega, GG⟩
  · simp [heap_push, Array.getElem_push]
  · rw [e1, e0]
    have h : Arr (w.alloc (.cells (List.replicate q (Value.int .u64 0)).toArray 41)) w.heap.size 41 (List.replicate q (Value.int .u64 0)) := Arr.make _ _ _
    have := h.row (n := q) (size := 1) (by simp) (by omega)
    simp only [List.toArray_replicate] at this
    exact this.grow ((Grows.refl _).new _)
  · rw [gn_rep]; omega
theorem hasW_rep (q j : Nat) : hasW (List.replicate q 0) j = false := by unfold hasW; rw [gn_rep]; simp
def OfAt (w : World) (b g n : Nat) (l : List Int) (k : Nat) (wr : World) : Prop :=
  ∃ y : Later w, wr = y.now ∧ ∃ W, BtAt y.now b g n W ∧ ∀ j, j < n → hasW W j = decide ((j : Int) ∈ l.take k)
set_option maxRecDepth 20000 in
set_option maxHeartbeats 2000000 in
theorem bitsOf (n : Nat) (A : Option Addr) (m c : Nat) (l : List Int) (w : World) (h : Rd w A 1 m (l.map (.int .i64))) (hn : n ≤ 65536) (hm : m ≤ 1000000) :
    Calls Tryz.prog 198 #[.int .i64 (n : Int), .slice A m c] w fun e w' => ∃ b g W, e = .returned (.pointer (some ⟨b, 0, none⟩)) ∧ BtAt w' b g n W ∧ (∀ j, j < n → hasW W j = decide ((j : Int) ∈ l)) ∧ w.heap.size ≤ b ∧ b < w'.heap.size ∧ w.heap.size ≤ g ∧ g < w'.heap.size ∧ Grows w w' := by
  have hl : l.length = m := by simpa using h.len
  have HL := hide hl
  have HR := hide h
  have C := hide (fun (W : World) => bitsNew n W hn)
  clear h hl
  go_enter Tryz.func198, Tryz.ntmps198
  go_wp2_with (go_at_call 232; refine (C.out _).mono ?_; rintro e w' ⟨b, g, rfl, hb, h1, h2, h3, h4, hg⟩; obtain ⟨x, rfl⟩ := hg.later; have HB := hide hb; have HG := hide hg; clear hb hg)
  have H0 : Hid (OfAt w b g n l 0 x.now) := ⟨x, rfl, _, HB.out, fun j hj => by rw [hasW_rep]; simp⟩
  clear HB
  go_loopw [15] (fun s wr => ∃ k : Nat, k ≤ m ∧ s = .int .i64 (k : Int) ∧ OfAt w b g n l k wr) (fun s _ => m - (Go.RowKit.intOf s).toNat)
  case atStart => exact ⟨0, by omega, by go_num, H0.out⟩
  case round =>
    obtain ⟨k, hk, rfl, y, rfl, W, hb, hW⟩ := hrel
    have HW := hide hW
    have HB := hide hb
    clear hW hb H0
    by_cases hlt : k < m
    · obtain ⟨bb, off, rfl, hc⟩ := HR.out.intsH (by omega)
      have c1 := hc k hlt
      have CA := hide (fun (W1 : World) (hg : Grows y.now W1) => bitsAdd b g n W (gi l k) W1 (HB.out.grow hg) hn)
      have HGI : Hid (l.take (k + 1) = l.take k ++ [gi l k]) := by
        have hkl : k < l.length := by rw [HL.out]; exact hlt
        show _ = _
        rw [List.take_succ_eq_append_getElem hkl]
        simp [gi, hkl]
      clear hc
      generalize gi l k = i at *
      go_wp2_with (go_at_call 233; refine (CA.out _ GG).mono ?_; rintro e w' ⟨r, W', rfl, hb', hW', ht⟩; have HB' := hide hb'; have HW' := hide hW'; have HT := hide ht; clear hb' hW' ht)
      have hl2 : Grows w w' := HT.out.later y.grows (fun k hk => by rw [hk]; exact h3)
      go_roundw
      case rel =>
        refine ⟨k + 1, by omega, by go_num, ⟨w', hl2⟩, rfl, W', HB'.out, fun j hj => ?_⟩
        rw [HW'.out j hj, HW.out j hj, HGI.out]
        apply bool_ext
        simp
      case measure => simp [Go.RowKit.intOf]; omega
    · have hkm : l.take k = l := List.take_of_length_le (by rw [HL.out]; omega)
      have HW2 := HW.out
      rw [hkm] at HW2
      have HWE := hide HW2
      clear HW2 hkm
      go_wp2_with fail
      go_ret
      have hsz : b < y.now.heap.size := HB.out.row.lt
      have hsg : g < y.now.heap.size := HB.out.words.lt
      exact ⟨b, g, W, rfl, HB.out, HWE.out, h1, hsz, h3, hsg, y.grows⟩
def NewHp (w : World) (b g n k : Nat) (wr : World) : Prop :=
  ∃ y : Later w, wr = y.now ∧ Arr y.now b 293 [.slice none 0 0, .slice (some ⟨g, 0, none⟩) n n] ∧ ∃ T : List Int, Row1 y.now g 3 1 n n (T.map (.int .i64)) ∧ ∀ j, j < k → gz T j = -1
set_option maxRecDepth 20000 in
set_option maxHeartbeats 2000000 in
theorem hpNew (n : Nat) (w : World) (hn : n ≤ 65536) : Calls Tryz.prog 200 #[.int .i64 (n : Int)] w fun e w' => ∃ b T, e = .returned (.pointer (some ⟨b, 0, none⟩)) ∧ HpAt w' (New w w') b ⟨[], T⟩ ∧ T.length = n ∧ (∀ j, j < n → gz T j = -1) ∧ w.heap.size ≤ b ∧ Grows w w' := by
  have mk := run_makeInts n (by omega)
  go_enter Tryz.func200, Tryz.ntmps200
  go_wp2_with fail
  have H0 : Hid (NewHp w (w.heap.size + 1) w.heap.size n 0 ((w.alloc (.cells (List.replicate n (Value.int .i64 0)).toArray 3)).alloc (.cells #[.slice none 0 0, .slice (some ⟨w.heap.size, 0, none⟩) n n] 293))) := by
    refine ⟨⟨_, ((Grows.refl w).new _).new _⟩, rfl, ⟨by simp [heap_push, Array.getElem_push]⟩, List.replicate n 0, ?_, fun j hj => absurd hj (by omega)⟩
    have h : Arr (w.alloc (.cells (List.replicate n (Value.int .i64 0)).toArray 3)) w.heap.size 3 (List.replicate n (Value.int .i64 0)) := Arr.make _ _ _
    have h2 := h.row (n := n) (size := 1) (by simp) (by omega)
    rw [List.map_replicate]
    exact h2.grow ((Grows.refl _).new _)
  simp only [List.toArray_replicate] at H0
  have hbb : w.heap.size ≤ w.heap.size + 1 := by omega
  generalize hb : w.heap.size + 1 = b at *
  go_loopw [20] (fun s wr => ∃ k : Nat, k ≤ n ∧ s = .int .i64 (k : Int) ∧ NewHp w b w.heap.size n k wr) (fun s _ => n - (Go.RowKit.intOf s).toNat)
  case atStart => exact ⟨0, by omega, by go_num, H0.out⟩
  case round =>
    obtain ⟨k, hk, rfl, y, rfl, ha, T, ht, hT⟩ := hrel
    have HT := hide hT
    have HR := hide ht
    have HA := hide ha
    clear hT ht H0
    by_cases hlt : k < n
    · have m0 := HR.out.int (j := k) hlt
      go_wp2_with fail
      go_roundw
      case rel =>
        refine ⟨k + 1, by omega, by go_num, ⟨_, y.grows.set (Nat.le_refl _) _⟩, rfl, HA.out.other (HR.out.ne HA.out (by decide)) _, T.set k (-1), ?_, fun j hj => ?_⟩
        · rw [List.map_set]; exact HR.out.set _ _
        · have hl := HR.out.len
          simp at hl
          unfold gz
          by_cases he : j = k
          · subst he; simp [show j < T.length by omega]
          · have := HT.out j (by omega)
            unfold gz at this
            rw [List.getD_eq_getElem?_getD, List.getElem?_set_ne (Ne.symm he), ← List.getD_eq_getElem?_getD]
            exact this
      case measure => simp [Go.RowKit.intOf]; omega
    · go_wp2_with fail
      go_ret
      have hl := HR.out.len
      simp at hl
      obtain rfl : k = n := by omega
      refine ⟨b, T, rfl, ⟨none, 0, w.heap.size, ?_, Own.nil _ _ _ _, ?_, ⟨hbb, HA.out.lt⟩, ⟨Nat.le_refl _, HR.out.lt⟩, fun p hp => by cases hp⟩, by omega, HT.out, hbb, y.grows⟩
      · show Arr _ _ _ [.slice none 0 0, .slice (some ⟨w.heap.size, 0, none⟩) T.length T.length]
        rw [show T.length = k by omega]
        exact HA.out
      · rw [show T.length = k by omega]
        exact HR.out
end Go.Proofs.YtgplpgldhoelcaaGreat

namespace Go.Proofs.YtgplpgldhoelcaaGreat
open Go Go.RowKit

structure WideF (F : Fence) : Prop where
  fn : ∀ f, F.fn f
  calls : ∀ (n : Nat) (P : Program) (f : FuncId) (args : Array Value) (w : World) (R : Ending → World → Prop), Calls P f args w R → CallsIn F n P f args w R
  depth : F.depth = none
theorem wideF_wide : WideF Fence.wide := ⟨fun _ => trivial, fun _ _ _ _ _ _ h => callsIn_wide.2 h, rfl⟩
theorem wideF_round (l : Nat) : WideF (Fence.wide.inRound l) := ⟨fun _ => trivial, fun _ _ _ _ _ _ h => callsIn_wide.2 h, rfl⟩

theorem wide_fn (f : FuncId) : Fence.wide.fn f = True := rfl
theorem wide_depth : Fence.wide.depth = none := rfl
attribute [go_sem] wide_fn wide_depth

def noDefer (l : List Oper) : Bool := l.all fun o => match o.op with | .defer _ => false | _ => true

section
variable {F : Fence} {m : Nat} {P : Program} {ops : Array Oper} {md : Region.Mode} {w0 : World}

theorem semAt_of {o : Oper} (h : (match o.op with | .defer _ => false | _ => true) = true) (r : Option Nat) (ρ : Operand → Value) : o.semAt r ρ = execOp ρ o := by
  cases r with
  | none => exact Oper.semAt_none ρ o
  | some l => exact Oper.semAt_some l ρ o fun c e => by rw [e] at h; cases h

theorem wpIn_of_runs (hF : WideF F) {o : Oper} (hd : (match o.op with | .defer _ => false | _ => true) = true) {a' : Act} {w : World} {q : Value → World → Prop} {K : Act → World → Prop} {Q : Exit → Act → World → Prop}
    (hrun : runsTo P q ((execOp a'.eval o).run P w)) (hK : ∀ u w', q u w' → K (a'.put o.dst u) w') : o.wpIn F m P a' w K Q := by
  unfold Oper.wpIn
  refine ⟨fun f _ => hF.fn f, ?_⟩
  rw [semAt_of hd]
  generalize (execOp a'.eval o).run P w = res at hrun
  cases res with
  | halt x w' => simp only [runsTo] at hrun
  | ok x w' =>
    cases x <;> simp only [runsTo] at hrun <;> simp only [Oper.uponIn]
    case value u => exact hK _ _ hrun
    case skip => exact hK _ _ hrun
    case enter f args =>
      refine ⟨fun h => (by rw [hF.depth] at h; cases h), hF.calls _ _ _ _ _ _ (hrun.mono fun e w'' ⟨u, he, hq⟩ => ?_)⟩
      subst he
      exact hK _ _ hq

theorem calls_in (hF : WideF F) {f : FuncId} {args : Array Value} {w : World} {R : Ending → World → Prop} (h : Calls P f args w R) : CallsIn F m P f args w R := hF.calls _ _ _ _ _ _ h
end
end Go.Proofs.YtgplpgldhoelcaaGreat

namespace Go.Proofs.YtgplpgldhoelcaaGreat
open Go Go.RowKit
attribute [local go_sem] Oper.semAt_some
set_option maxHeartbeats 1000000 in
theorem adjEach (b : Nat) (v : Int) (back : Bool) (w : World) : Calls Tryz.prog 188 #[.pointer (some ⟨b, 0, none⟩), .int .i64 v, .bool back] w fun e w' =>
    ∃ b1, e = .returned (.func (.func 225) #[] #[.pointer (some ⟨b1, 0, none⟩), .pointer (some ⟨b1 + 1, 0, none⟩), .pointer (some ⟨b1 + 1 + 1, 0, none⟩)]) ∧ w.heap.size = b1 ∧
      Arr w' b1 188 [.pointer (some ⟨b, 0, none⟩)] ∧ Arr w' (b1 + 1) 3 [.int .i64 v] ∧ Arr w' (b1 + 1 + 1) 4 [.bool back] ∧ Grows w w' := by
  go_enter Tryz.func188, Tryz.ntmps188
  go_wp2
  go_ret
  refine ⟨w.heap.size, rfl, rfl, ⟨by simp [heap_push, Array.getElem_push, Array.getElem?_push, eq_add2]⟩, ⟨by simp [heap_push, Array.getElem_push]⟩, ⟨by simp [heap_push, Array.getElem_push]⟩, GG⟩
def encE (E : List Edg) (i : Nat) : Array Value := #[.int .i64 (i : Int), eVal (ge E i)]
set_option maxRecDepth 20000 in
set_option maxHeartbeats 2000000 in
theorem each_gives (F B M0 : Nat → Prop) (b N : Nat) (E : List Edg) (v : Nat) (back : Bool) (b1 : Nat) (w : World) (hA : AdjAt F w b N E) (hF : ∀ k, F k → B k ∨ M0 k) (hE : InN N E) (hv : v < N) (hn : E.length ≤ 1000000) (hN : N ≤ 100000)
    (hm : ∀ k, M0 k → k < w.heap.size) (m1 : B b1 ∨ M0 b1) (m2 : B (b1 + 1) ∨ M0 (b1 + 1)) (m3 : B (b1 + 1 + 1) ∨ M0 (b1 + 1 + 1))
    (a1 : Arr w b1 188 [.pointer (some ⟨b, 0, none⟩)]) (a2 : Arr w (b1 + 1) 3 [.int .i64 (v : Int)]) (a3 : Arr w (b1 + 1 + 1) 4 [.bool back]) :
    Gives Tryz.prog 225 #[.pointer (some ⟨b1, 0, none⟩), .pointer (some ⟨b1 + 1, 0, none⟩), .pointer (some ⟨b1 + 1 + 1, 0, none⟩)] (encE E) B M0 (rowN (nN E back) E.length v) w := by
  intro l J Jx W hkW hJ hJx hY h0
  have HJ := hide hJ
  have HY := hide hY
  have H0 := hide h0
  have HE := hide hE
  have hF2 : ∀ k, F k → ¬ ¬ (B k ∨ M0 k) := fun k hk h1 => h1 (hF k hk)
  have HF := hide hF2
  have HA := hide (hA.touch hkW hF2)
  have i1 : Arr W b1 188 [.pointer (some ⟨b, 0, none⟩)] := ⟨hkW.at m1 a1.is⟩
  have i2 : Arr W (b1 + 1) 3 [.int .i64 (v : Int)] := ⟨hkW.at m2 a2.is⟩
  have i3 : Arr W (b1 + 1 + 1) 4 [.bool back] := ⟨hkW.at m3 a3.is⟩
  have C := hide (adjRow F b N E v back W HA.out HE.out hv hn hN)
  have hmW : ∀ k, M0 k → k < W.heap.size := fun k hk => Nat.lt_of_lt_of_le (hm k hk) hkW.size
  have HM := hide hmW
  have HM1 := hide m1
  clear hJ hY h0 hE hA hkW a1 a2 a3 hm hmW hF hF2 m2 m3
  have hrl : Hid ((rowN (nN E back) E.length v).length = cntN (nN E back) v E.length) := rowN_len _ _ _
  have hcl := cntN_le (nN E back) v E.length
  generalize hxs : rowN (nN E back) E.length v = xs at *
  generalize hcn : cntN (nN E back) v E.length = cn at *
  have HXS := hide hxs
  clear hxs hcn
  refine callsIn_of_wp Tryz.func225 rfl trivial ?_ rfl
  simp only [Tryz.ntmps225, List.size_toArray, List.length_cons, List.length_nil, Nat.reduceAdd, Nat.reduceSub, Array.replicate_succ, Array.replicate_zero, List.push_toArray, List.append_toArray, List.nil_append, List.cons_append]
  gi_wp2_with (gi_at_call 226; refine (calls_in wideF_wide C.out).mono ?_; rintro e w' ⟨A, rfl, hr, hg⟩; obtain ⟨x1, rfl⟩ := hg.later; have HR := hide hr; clear hg hr)
  have HK1 : Hid (Keeps B M0 W x1.now) := x1.grows.touch _
  have H1 : Hid (J [] M0 x1.now) := HJ.out [] _ W _ _ H0.out (x1.grows.touch _) (fun k hk => ⟨.inl hk, Nat.lt_of_lt_of_le (HM.out k hk) x1.size⟩)
  clear H0
  gi_loopw [12] (fun s wr => ∃ k : Nat, k ≤ cn ∧ s = .int .i64 (k : Int) ∧ Keeps B M0 W wr ∧ J (xs.take k) M0 wr) (fun s _ => cn - (Go.RowKit.intOf s).toNat)
  case atStart => exact ⟨0, by omega, by go_num, HK1.out, H1.out⟩
  case round =>
    obtain ⟨k, hk, rfl, hkp, hj⟩ := hrel
    have j1 : Arr wr b1 188 [.pointer (some ⟨b, 0, none⟩)] := ⟨hkp.at HM1.out i1.is⟩
    have HAr := hide (HA.out.touch hkp HF.out)
    have HRr := hide (Rd.touch HR.out.1 hkp (fun p hp => HF.out _ (HR.out.2 p hp)))
    have HJ1 := hide hj
    have HKP := hide hkp
    clear hj hkp H1 HK1
    by_cases hlt : k < cn
    · have hxk : k < xs.length := by rw [hrl.out]; exact hlt
      obtain ⟨g, off, rfl, hc⟩ := HRr.out.at_ (by omega)
      have c1 : Holds wr ⟨g, off + k, none⟩ (.int .i64 (gn xs k : Int)) := ⟨hc k _ (nv_at hxk)⟩
      obtain ⟨EA, cE, g1, g2, g3, g4, e1, e2, _, _⟩ := HAr.out
      have hin : gn xs k < E.length := by
        have : (rowN (nN E back) E.length v)[k]? = some (gn xs k) := by rw [HXS.out]; simp [gn, hxk]
        exact rowN_lt _ this
      obtain ⟨ge0, offe, rfl, hce⟩ := e2.edgesH (by omega)
      obtain ⟨q1, q2, q3⟩ := hce _ hin
      have hsp : xs = xs.take k ++ gn xs k :: xs.drop (k + 1) := by
        have : gn xs k = xs[k] := by simp [gn, hxk]
        rw [this, List.getElem_cons_drop, List.take_append_drop]
      obtain ⟨fn, tmps, assign, body, hy, hR⟩ := HY.out _ _ _ _ _ hsp HJ1.out
      unfold encE eVal at hy
      have HRR := hide hR
      have HSP := hide hsp
      clear hc hce hR hsp e2
      gi_wp2
      refine HRR.out.mono ?_
      rintro e W3 (⟨rfl, hJ3, hk3⟩ | ⟨rfl, hJx3, _⟩)
      · have HJ3 := hide hJ3
        have HK3 := hide hk3
        clear hJ3 hk3
        gi_wp2
        go_roundw
        case rel =>
          refine ⟨k + 1, by omega, by go_num, HKP.out.trans HK3.out, ?_⟩
          have e : xs.take (k + 1) = xs.take k ++ [gn xs k] := by
            rw [List.take_succ_eq_append_getElem hxk]
            simp [gn, hxk]
          rw [e]
          exact HJ3.out
        case measure => simp [Go.RowKit.intOf]; omega
      · have HJX := hide hJx3
        clear hJx3
        gi_wp2
        refine bodyPost_ret (results_none rfl _ _ _) rfl ?_
        exact ⟨⟨_, rfl⟩, .inr ⟨xs.take k, gn xs k, xs.drop (k + 1), _, HSP.out, HJX.out⟩⟩
    · have hke : xs.take k = xs := List.take_of_length_le (by rw [hrl.out]; omega)
      have HJ2 := HJ1.out
      rw [hke] at HJ2
      have HJE := hide HJ2
      clear HJ2 hke
      gi_wp2
      go_end0
      exact ⟨⟨_, rfl⟩, .inl ⟨_, HJE.out⟩⟩
end Go.Proofs.YtgplpgldhoelcaaGreat

