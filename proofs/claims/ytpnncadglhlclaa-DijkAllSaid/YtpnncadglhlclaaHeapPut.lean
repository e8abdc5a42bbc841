/- Contract: a number with its key is put. -/
import Derived.Test.YtpnncadglhlclaaHeapSink
import Derived.Maps.AppendAt
import Derived.Test.YtpnncadglhlclaaOfSame
namespace Go.Proofs.Ytpnncadglhlclaa
open Go Go.RowKit
theorem elemItem : Elem 205 227 2 := by
  have h : (Try.prog.info? 227).map (fun i => (i.zero, i.size, i.bytes)) = some (some (.agg #[.int .i64 0, .int .u64 0]), 2, 16) := by kernel_rfl
  obtain ⟨i, hi, hz, hs, hb⟩ := info_parts h
  exact ⟨Try.underlying205, ⟨i, _, 16, hi, hz, hs, hb, rfl, by omega⟩, by omega⟩
section
variable {w : World} {e : TypeId} {ops : Array Oper} {o : Oper} {a : Act} {K : Act → World → Prop} {Q : Exit → Act → World → Prop} {F : Prop}
/-- append, in a region that draws its order, to a slice whose block is of a set: only that block turns. -/
theorem step_appT {t : TypeId} {size : Nat} (E : Elem t e size) (hgd : o.guard = none) (s x : Operand) (ho : o.op = .call { callee := .builtin .append, args := #[s, x], argTypes := #[t, t] })
    (S : Nat → Prop) (n c : Nat) (A : Option Addr) (xs : List Value) (hs : a.eval s = .slice A n c) (hown : Own w 0 e size A n c xs) (hS : ∀ p, A = some p → S p.block) (g c' : Nat) (news : List Value) (hx : a.eval x = .slice (some ⟨g, 0, none⟩) 1 c')
    (hl : news.length = size) (hv : ∀ j u, news[j]? = some u → w.cell? ⟨g, j, none⟩ = some u) (h1 : ∀ u ∈ news, u.oneCell' = true) (hnm : n + 1 ≤ 1000000000000)
    (h : ∀ A' c'' w', Own w' 0 e size A' (n + 1) c'' (xs ++ news) → Touch (fun k => ∃ p, A = some p ∧ p.block = k) w w' → (∀ p, A' = some p → S p.block ∨ New w w' p.block) → K (a.put o.dst (.slice A' (n + 1) c'')) w') :
    if Region.wanted o (yielded ops a.tmps) = true then Oper.wp Try.prog o a w K Q else F := by
  obtain ⟨i, z, bytes, hi, hz, hsz, hby, hzs, hb64⟩ := E.info
  rw [if_pos (by simp [Region.wanted, hgd])]
  obtain ⟨v', w', hr, hown', hgr, _, hat⟩ := run_append_own_at (P := Try.prog) w 0 t o.type e i z size bytes E.under hi hz hsz hby hzs E.pos (.slice A n c) n xs hown ⟨g, 0, none⟩ 1 c' news (by omega) (fun j u hu => by rw [add_pl2, Nat.zero_add]; exact hv j u hu) h1 (by unfold maxLen; omega) (Nat.le_trans (Nat.mul_le_mul hnm hb64) (by omega)) (Nat.zero_le _)
  unfold Oper.wp execOp
  simp only [ho, resolve, invoke, builtin, Sem.run_bind, Sem.run_pure, Result.andThen_ok, List.map_toArray, List.map_cons, List.map_nil, hs, hx, hr]
  obtain ⟨A', c'', rfl⟩ := own_form hown'
  have hob : ∀ k, (Value.slice A n c).ownBlock = some k → S k := fun k hk => by
    cases A with
    | none => simp [Value.ownBlock] at hk
    | some p => simp [Value.ownBlock] at hk; subst hk; exact hS p rfl
  refine h A' c'' w' hown' ((Touch.refl _ w).grown hgr fun k hk => .inl (by
    cases A with
    | none => simp [Value.ownBlock] at hk
    | some p => simp [Value.ownBlock] at hk; exact ⟨p, rfl, hk⟩)) fun p hp => ?_
  subst hp
  simp only [Value.ownBlock] at hat
  rcases hat with hat | hat
  · exact .inl (hob _ hat.symm)
  · injection hat with hat
    exact .inr ⟨by omega, (World.ownsRow.lt hown' p.block rfl).2⟩
end
theorem Own.not_arr {w : World} {B n c size g : Nat} {e t : TypeId} {A : Option Addr} {xs cs : List Value} (h : Own w B e size A n c xs) (k : Arr w g t cs) (hne : e ≠ t) : ∀ p, A = some p → p.block ≠ g := by
  rintro p rfl
  rcases h.2 with ⟨h1, _⟩ | ⟨g', cap, cur, h1, _, h3, _⟩
  · cases h1
  · injection h1 with h1 _ _
    injection h1 with h1
    subst h1
    rintro rfl
    have := h3.symm.trans k.is
    injection this with this
    injection this with _ this
    exact hne this
theorem Own.not_row {w : World} {B n c size g n' c' size' : Nat} {e t : TypeId} {A : Option Addr} {xs cs : List Value} (h : Own w B e size A n c xs) (k : Row1 w g t size' n' c' cs) (hne : e ≠ t) : ∀ p, A = some p → p.block ≠ g := by
  rintro p rfl
  rcases h.2 with ⟨h1, _⟩ | ⟨g', cap, cur, h1, _, h3, _⟩
  · cases h1
  · injection h1 with h1 _ _
    injection h1 with h1
    subst h1
    rintro rfl
    obtain ⟨cur', h2, _⟩ := k.is
    have := h3.symm.trans h2
    injection this with this
    injection this with _ this
    exact hne this
def PutAt (w : World) (v key : Nat) (z : Int) (s7 s8 : Value) (wx : World) : Prop :=
  s8 = .int .i64 z ∧ ∃ y : Later w, wx = y.now ∧ s7 = .pointer (some ⟨w.heap.size, 0, none⟩) ∧ Arr y.now w.heap.size 227 [.int .i64 (v : Int), .int .u64 (key : Int)]
theorem put_rel {w wx : World} {v key : Nat} {z : Int} {s7 s8 : Value} (h8 : s8 = .int .i64 z) (hg : Grows w wx) (h7 : s7 = .pointer (some ⟨w.heap.size, 0, none⟩)) (ha : wx.heap[w.heap.size]? = some (.cells [Value.int .i64 (v : Int), .int .u64 (key : Int)].toArray 227 (0, 0))) : PutAt w v key z s7 s8 wx :=
  ⟨h8, ⟨wx, hg⟩, rfl, h7, ⟨ha⟩⟩
/-- What 'put' hands back and leaves. -/
def GivePut (w : World) (S : Nat → Prop) (b : Nat) (s' : HS) (r : Bool) (e : Ending) (w' : World) : Prop :=
  e = .returned (.bool r) ∧ HpAt w' (fun k => S k ∨ New w w' k) b s' ∧ Touch S w w'
theorem Own.othr {w : World} {B n c size : Nat} {e : TypeId} {A : Option Addr} {xs : List Value} (h : Own w B e size A n c xs) {q : Addr} (hq : ∀ p, A = some p → p.block ≠ q.block) (u : Value) : Own (w.setCell q u) B e size A n c xs := by
  refine ⟨h.1, ?_⟩
  rcases h.2 with h1 | ⟨g, cap, cur, h1, h2, h3, h4⟩
  · exact .inl h1
  · refine .inr ⟨g, cap, cur, h1, h2, ?_, h4⟩
    rw [heap_setCell _ _ _ _ (hq ⟨g, 0, none⟩ (by injection h1))]
    exact h3
theorem put_in {s : HS} {N v key : Nat} (h : s.In N) (hv : v < N) : (⟨s.L ++ [(v, key)], s.T⟩ : HS).In N := by
  refine ⟨h.1, fun i hi => ?_⟩
  simp only [List.length_append, List.length_cons, List.length_nil] at hi
  unfold gi2
  by_cases he : i < s.L.length
  · rw [List.getD_eq_getElem?_getD, List.getElem?_append_left he, ← List.getD_eq_getElem?_getD]
    exact h.2 i he
  · rw [List.getD_eq_getElem?_getD, List.getElem?_append_right (by omega), show i - s.L.length = 0 by omega]
    exact hv
/-- Behind the append, and its header stored. -/
theorem put_mid {w Wp w2 : World} {S : Nat → Prop} {b c c2 G v key : Nat} {A A2 : Option Addr} {s : HS} (hgp : Grows w Wp) (r1 : Arr w b 207 [.slice A s.L.length c, .slice (some ⟨G, 0, none⟩) s.T.length s.T.length]) (r2 : Own w 0 227 2 A s.L.length c (its s.L))
    (r3 : Row1 w G 3 1 s.T.length s.T.length (s.T.map (.int .i64))) (s1 : S b) (s2 : S G) (ho : Own w2 0 227 2 A2 (s.L.length + 1) c2 (its s.L ++ [.int .i64 (v : Int), .int .u64 (key : Int)])) (ht : Touch (fun k => ∃ p, A = some p ∧ p.block = k) Wp w2)
    (hA : ∀ p, A2 = some p → S p.block ∨ New Wp w2 p.block) (h6 : ∀ p, A = some p → S p.block) :
    HpAt (w2.setCell ⟨b, 0, none⟩ (.slice A2 (s.L.length + 1) c2)) (fun k => S k ∨ New w (w2.setCell ⟨b, 0, none⟩ (.slice A2 (s.L.length + 1) c2)) k) b ⟨s.L ++ [(v, key)], s.T⟩ ∧ Touch S w (w2.setCell ⟨b, 0, none⟩ (.slice A2 (s.L.length + 1) c2)) := by
  have na := r2.not_arr r1 (by decide)
  have nb := r2.not_row r3 (by decide)
  have q1 : Arr w2 b 207 _ := (r1.grow hgp).touch ht fun ⟨p, hp, e⟩ => na p hp e
  have q3 := (r3.grow hgp).touch ht fun ⟨p, hp, e⟩ => nb p hp e
  have n2 := r3.ne r1 (by decide)
  refine ⟨⟨A2, c2, G, ?_, ?_, q3.other (Ne.symm n2) _, .inl s1, .inl s2, fun p hp => ?_⟩, ?_⟩
  · have := q1.set 0 (.slice A2 (s.L.length + 1) c2)
    simpa using this
  · have := ho.othr (q := ⟨b, 0, none⟩) (ho.not_arr q1 (by decide)) (.slice A2 (s.L.length + 1) c2)
    show Own _ _ _ _ _ (s.L ++ [(v, key)]).length _ (its (s.L ++ [(v, key)]))
    rw [its_app, List.length_append]
    exact this
  · rcases hA p hp with h | ⟨h, h'⟩
    · exact .inl h
    · exact .inr ⟨Nat.le_trans hgp.size h, by rw [size_setCell]; exact h'⟩
  · exact (((hgp.touch S).trans (ht.mono fun k ⟨p, hp, e⟩ => e ▸ h6 p hp))).set (.inl s1) _
set_option maxRecDepth 20000 in
set_option maxHeartbeats 4000000 in
theorem hpPut (b N : Nat) (s : HS) (v key : Nat) (S : Nat → Prop) (w : World) (h : HpAt w S b s) (hs : ∀ k, S k → k < w.heap.size) (hin : s.In N) (hv : v < N) (hz : gz s.T v = -1 ∨ 0 ≤ gz s.T v ∧ gz s.T v < s.L.length) (hl : s.L.length ≤ 90000) :
    Calls Try.prog 150 #[.pointer (some ⟨b, 0, none⟩), .int .i64 (v : Int), .int .u64 (key : Int)] w (GivePut w S b (s.put v key).1 (s.put v key).2) := by
  have hbx : ¬ S w.heap.size := fun e => by have := hs _ e; omega
  obtain ⟨A, c, G, r1, r2, r3, r4, r5, r6⟩ := h
  have hT := hin.1
  have m0 : Mine w ⟨G, v, none⟩ (.int .i64 (gz s.T v)) := r3.int (by omega)
  have R1 := hide r1
  have R2 := hide r2
  have R3 := hide r3
  have R6 := hide r6
  have HT := hide hT
  have HIN := hide hin
  have HSS := hide hs
  have HP : Hid (s.put v key = if gz s.T v = -1 then (HS.rise ⟨s.L ++ [(v, key)], s.T⟩ s.L.length (v, key), true) else if (gi2 s.L (gz s.T v).toNat).2 ≤ key then (s, false) else (s.rise (gz s.T v).toNat (v, key), true)) := rfl
  have hvT : v < s.T.length := by omega
  clear r2 r3 r6 hT hin hs
  generalize hzz : gz s.T v = z at *
  clear hzz
  go_enter Try.func150, Try.ntmps150
  go_upto_region 3 with fail
  go_cut [7, 8] (fun s7 s8 wx => PutAt w v key z s7 s8 wx)
  case first =>
    go_region_with fail
    all_goals go_wp2_with fail
    all_goals go_meet
    all_goals (case rel => exact put_rel rfl (by repeat (first | exact Grows.refl _ | refine Grows.now ?_ _ | refine Grows.new ?_ _ | refine Grows.drewN ?_ _ | refine Grows.drew ?_ | assumption | (refine Grows.set ?_ (by first | omega | (simp; done) | (simp; omega)) _))) rfl (by simp [heap_drew, heap_push]))
  case rest =>
    obtain ⟨rfl, y, rfl, rfl, hax⟩ := hcut
    have hgy : Grows w y.now := y.grows
    by_cases h1 : z = -1
    · subst h1
      rw [if_pos rfl] at HP
      have q1 := r1.grow hgy
      have RR1 := hide q1
      have HNA := hide (R2.out.not_arr r1 (by decide))
      have HNB := hide (R2.out.not_row R3.out (by decide))
      go_wp2_with fail
      go_region_law (refine step_appT elemItem rfl _ _ rfl S _ c A _ rfl (R2.out.grows (by repeat (first | exact Grows.refl _ | refine Grows.now ?_ _ | refine Grows.new ?_ _ | refine Grows.drewN ?_ _ | refine Grows.drew ?_ | assumption | (refine Grows.set ?_ (by first | omega | (simp; done) | (simp; omega)) _)))) R6.out _ _ [.int .i64 (v : Int), .int .u64 (key : Int)] rfl rfl (fun j u hu => by
        match j, hu with
        | 0, hu => simp at hu; subst hu; simp [go_sem]
        | 1, hu => simp at hu; subst hu; simp [go_sem]) (fun u hu => by simp at hu; rcases hu with rfl | rfl <;> rfl) (by omega) ?_; intro A2 c2 w2 hown2 ht2 hA2; have q2 := Arr.touch (Arr.grow r1 (by repeat (first | exact Grows.refl _ | refine Grows.now ?_ _ | refine Grows.new ?_ _ | refine Grows.drewN ?_ _ | refine Grows.drew ?_ | assumption | (refine Grows.set ?_ (by first | omega | (simp; done) | (simp; omega)) _)))) ht2 (fun ⟨p, hp, e⟩ => HNA.out p hp e); have qm := put_mid (show Grows w _ from (by repeat (first | exact Grows.refl _ | refine Grows.now ?_ _ | refine Grows.new ?_ _ | refine Grows.drewN ?_ _ | refine Grows.drew ?_ | assumption | (refine Grows.set ?_ (by first | omega | (simp; done) | (simp; omega)) _)))) r1 R2.out R3.out r4 r5 hown2 ht2 hA2 R6.out; have q4 : Arr w2 w.heap.size 227 _ := Arr.touch (Arr.grow hax (by repeat (first | exact Grows.refl _ | refine Grows.now ?_ _ | refine Grows.new ?_ _ | refine Grows.drewN ?_ _ | refine Grows.drew ?_ | assumption | (refine Grows.set ?_ (by first | omega | (simp; done) | (simp; omega)) _)))) ht2 (fun ⟨p, hp, e⟩ => hbx (e ▸ R6.out p hp)); have HM := hide qm; clear qm hown2 ht2 hA2)
      all_goals
        have q5 := q4.other (p := ⟨b, 0, none⟩) (fun e => hbx (e ▸ r4)) (.slice A2 (s.L.length + 1) c2)
        have q6 := q2.set 0 (.slice A2 (s.L.length + 1) c2)
        simp only [List.set_cons_zero] at q6
        generalize w2.setCell ⟨b, 0, none⟩ (.slice A2 (s.L.length + 1) c2) = w3 at *
        have HMT := hide HM.out.2
        have HR := hide (fun (W : World) (hg : Grows w3 W) => hpRise b N ⟨s.L ++ [(v, key)], s.T⟩ s.L.length (v, key) (fun k => S k ∨ New w w3 k) W (HM.out.1.grow hg) (fun k hk => Nat.lt_of_lt_of_le (by
          rcases hk with hk | hk
          · exact Nat.lt_of_lt_of_le (HSS.out k hk) HMT.out.size
          · exact hk.2) hg.size) (put_in HIN.out hv) (by simp) hv (by simp; omega))
        unfold itVal at HR
        dsimp only at HR
        clear q2 q4
        go_wp2_with (go_at_call 169; refine (HR.out _ (by repeat (first | exact Grows.refl _ | refine Grows.now ?_ _ | refine Grows.new ?_ _ | refine Grows.drewN ?_ _ | refine Grows.drew ?_ | assumption | (refine Grows.set ?_ (by first | omega | (simp; done) | (simp; omega)) _)))).mono ?_; rintro e w' ⟨rfl, hp, ht⟩; have HP4 := hide hp; have HT4 := hide ht; clear hp ht)
        go_ret
        rw [HP.out]
        exact ⟨rfl, HP4.out.mono (fun k hk => by
          rcases hk with hk | ⟨h1, h2⟩
          · exact .inl hk
          · exact .inr ⟨h1, Nat.lt_of_lt_of_le h2 HT4.out.size⟩), HMT.out.trans2 HT4.out (fun k hk => by
          rcases hk with hk | ⟨h1, h2⟩
          · exact .inl hk
          · exact .inr h1)⟩
    · obtain ⟨i, rfl⟩ : ∃ i : Nat, z = (i : Int) := ⟨z.toNat, by omega⟩
      have hi : i < s.L.length := by omega
      have hzb : ((i : Int) == -1) = false := beq_eq_false_iff_ne.2 h1
      rw [if_neg h1, Int.toNat_natCast] at HP
      have HQ0 := hide (show HpAt w S b s from ⟨A, c, G, r1, R2.out, R3.out, r4, r5, R6.out⟩)
      obtain ⟨g, rfl, m1, m2⟩ := R2.out.item hi
      have HQ := hide (fun (W : World) (hg : Grows w W) => hpRise b N s i (v, key) S W (HQ0.out.grow hg) (fun k hk => Nat.lt_of_lt_of_le (HSS.out k hk) hg.size) HIN.out hi hv (by omega))
      unfold itVal at HQ
      dsimp only at HQ
      generalize gi2 s.L i = q at *
      obtain ⟨q1, q2⟩ := q
      dsimp only at *
      by_cases hle : q2 ≤ key
      · have hd : decide ((q2 : Int) ≤ (key : Int)) = true := decide_eq_true (by omega)
        have hd2 : decide (q2 ≤ key) = true := decide_eq_true hle
        rw [if_pos hle] at HP
        clear hle h1 hz
        go_wp2_with fail
        go_ret
        rw [HP.out]
        have hgz : Grows w y.now := (by repeat (first | exact Grows.refl _ | refine Grows.now ?_ _ | refine Grows.new ?_ _ | refine Grows.drewN ?_ _ | refine Grows.drew ?_ | assumption | (refine Grows.set ?_ (by first | omega | (simp; done) | (simp; omega)) _)))
        exact ⟨rfl, (HQ0.out.grow hgz).mono (fun k hk => .inl hk), hgz.touch S⟩
      · have hd : decide ((q2 : Int) ≤ (key : Int)) = false := decide_eq_false (by omega)
        have hd2 : decide (q2 ≤ key) = false := decide_eq_false hle
        rw [if_neg hle] at HP
        clear hle h1 hz
        go_wp2_with (go_at_call 169; refine (HQ.out _ (by repeat (first | exact Grows.refl _ | refine Grows.now ?_ _ | refine Grows.new ?_ _ | refine Grows.drewN ?_ _ | refine Grows.drew ?_ | assumption | (refine Grows.set ?_ (by first | omega | (simp; done) | (simp; omega)) _)))).mono ?_; rintro e w' ⟨rfl, hp, ht⟩; have HP4 := hide hp; have HT4 := hide ht; clear hp ht)
        go_ret
        rw [HP.out]
        have hgz : Grows w y.now := (by repeat (first | exact Grows.refl _ | refine Grows.now ?_ _ | refine Grows.new ?_ _ | refine Grows.drewN ?_ _ | refine Grows.drew ?_ | assumption | (refine Grows.set ?_ (by first | omega | (simp; done) | (simp; omega)) _)))
        exact ⟨rfl, HP4.out.mono (fun k hk => .inl hk), (hgz.touch S).trans HT4.out⟩
end Go.Proofs.Ytpnncadglhlclaa
