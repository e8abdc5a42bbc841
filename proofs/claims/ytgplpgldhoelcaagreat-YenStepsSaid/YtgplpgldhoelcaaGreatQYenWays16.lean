/- Contract: the first route is struck out of an own row of routes (slices.Delete). -/
import Derived.Lib.SliceRun
import Derived.Lib.AppendZeros
import Derived.Test.YtgplpgldhoelcaaGreatQYenWays01
import Derived.Test.YtgplpgldhoelcaaGreatQYenWays05
import Derived.Test.YtgplpgldhoelcaaGreatQYenWays11
import Derived.Test.YtgplpgldhoelcaaGreatQYenWays14
import Derived.Test.YtgplpgldhoelcaaGreatQYenWays15
namespace Go.Proofs.YtgplpgldhoelcaaGreat
open Go Go.RowKit
theorem run_clearR (w : World) (ty : TypeId) (b o c : Nat) (hc : ∀ j, j < 2 → (w.cell? ⟨b, o + j, none⟩).isSome = true) (hf : ∀ j, j < 2 → w.frozen? ⟨b, o + j, none⟩ = false) :
    (Builtin.clear_ #[46] ty #[.slice (some ⟨b, o, none⟩) 1 c]).run Tryz.prog w = .ok (.tuple #[]) (w.setCells b o [.slice none 0 0, .int .u64 0]) := by
  have hv : ∀ w, (zeroValue 53).run Tryz.prog w = .ok (.agg #[.slice none 0 0, .int .u64 0]) w := fun w => by kernel_rfl
  have hzc : (Builtin.zeroCells (Value.agg #[.slice none 0 0, .int .u64 0]).cells 1).toList = [.slice none 0 0, .int .u64 0] := by kernel_rfl
  have hst := run_storeCells_cells (P := Tryz.prog) b o [.slice none 0 0, .int .u64 0] 0 w (by simpa using hc) (by simpa using hf) (by intro v hv'; simp at hv'; rcases hv' with rfl | rfl <;> rfl)
  simp only [Nat.add_zero] at hst
  simp [Builtin.clear_, run_underlying Tryz.underlying46, hv, hzc, hst]
set_option maxRecDepth 20000 in
set_option maxHeartbeats 4000000 in
theorem delR (B : Nat) (w : World) (A : Option Addr) (n c : Nat) (xs : List Value) (ho : Own w B 53 2 A n c xs) (hn0 : 0 < n) (hn : n ≤ 1000000) (hx1 : ∀ u ∈ xs, u.oneCell' = true) :
    Calls Tryz.prog 83 #[.slice A n c, .int .i64 0, .int .i64 1] w fun x w' => x = .returned (.slice A (n - 1) c) ∧ Touch (fun k => ∃ p, A = some p ∧ p.block = k) w w' ∧ Own w' B 53 2 A (n - 1) c (xs.drop 2) := by
  obtain ⟨i0, _, hi0, hz0, hz1, hz2⟩ : ∃ (i : TypeInfo) (z : Value), Tryz.prog.info? 53 = some i ∧ i.zero = some z ∧ i.size = 2 ∧ i.bytes = 32 := by
    have h : (Tryz.prog.info? 53).map (fun i => (i.zero, i.size, i.bytes)) = some (some (.agg #[.slice none 0 0, .int .u64 0]), 2, 32) := by kernel_rfl
    obtain ⟨i, h1, h2, h3, h4⟩ := info_parts h
    exact ⟨i, _, h1, h2, h3, h4⟩
  have hm : c ≤ maxLen := ho.capM
  obtain ⟨g, cur, rfl, hB, hh, hnc, hsz, htk⟩ := ho.at_ hn0
  have hlE : xs.length = n * 2 := ho.1
  have hcur : ∀ k, k < n * 2 → cur[k]? = xs[k]? := fun k hk => by
    rw [← htk, List.getElem?_take, if_pos hk]
    simp
  obtain ⟨news, hnews⟩ : ∃ news, news = xs.drop 2 := ⟨_, rfl⟩
  have hlen : news.length = (n - 1) * 2 := by rw [hnews, List.length_drop, hlE]; omega
  have hcell : ∀ k, w.drew.cell? ⟨g, k, none⟩ = cur[k]? := fun k => by show w.cell? _ = _; simp [World.cell?, hh]
  have hfroz : ∀ k, w.drew.frozen? ⟨g, k, none⟩ = false := fun k => by show w.frozen? _ = _; simp [World.frozen?, hh]
  obtain ⟨ad, hA, hsrc⟩ : ∃ ad : Addr, (if c = 1 then some (⟨g, 0, none⟩ : Addr) else some ⟨g, 2, none⟩) = some ad ∧ Hid (∀ t u, news[t]? = some u → w.drew.cell? (ad.add t) = some u) := by
    by_cases h : c = 1
    · refine ⟨⟨g, 0, none⟩, by simp [h], fun t u hu => ?_⟩
      have h0 : news.length = 0 := by rw [hlen]; have : n - 1 = 0 := by omega
                                      rw [this]
      rw [List.length_eq_zero_iff.1 h0] at hu
      simp at hu
    · refine ⟨⟨g, 2, none⟩, by simp [h], fun t u hu => ?_⟩
      have ht : t < (n - 1) * 2 := by
        have := (List.getElem?_eq_some_iff.1 hu).1
        rwa [hlen] at this
      rw [hnews, List.getElem?_drop] at hu
      rw [Addr.add_lit, hcell, hcur _ (by omega)]
      exact hu
  have s1 : Hid (news.length = (n - 1) * 2) := hlen
  have s2 : Hid (∀ u ∈ news, u.oneCell' = true) := fun u hu => hx1 u (by rw [hnews] at hu; exact List.mem_of_mem_drop hu)
  have s3 : Hid (∀ t, t < news.length → (w.drew.cell? ⟨g, 0 + 0 * 2 + t, none⟩).isSome = true ∧ w.drew.frozen? ⟨g, 0 + 0 * 2 + t, none⟩ = false) := fun t ht => by
    rw [hlen] at ht
    refine ⟨?_, hfroz _⟩
    rw [hcell, hcur _ (by omega), List.getElem?_eq_getElem (by rw [hlE]; omega)]
    rfl
  obtain ⟨W1, hW1⟩ : ∃ W1, W1 = w.drew.setCells g (0 + 0 * 2) news := ⟨_, rfl⟩
  have hh1 : W1.heap[g]? = some (.cells (layA cur 0 news) 53 (0, 0)) := by
    rw [hW1]
    exact setCells_at news w.drew cur 0 hh
  have hsz1 : (layA cur 0 news).size = c * 2 := by rw [layA_size, hsz]
  have hcl : ∀ ty cc, (Builtin.clear_ #[46] ty #[.slice (some ⟨g, (n - 1) * 2, none⟩) 1 cc]).run Tryz.prog W1 = .ok (.tuple #[]) (W1.setCells g ((n - 1) * 2) [.slice none 0 0, .int .u64 0]) := fun ty cc =>
    run_clearR W1 ty g ((n - 1) * 2) cc (fun j hj => by simp only [World.cell?, hh1]; rw [Array.getElem?_eq_getElem (by rw [hsz1]; omega)]; rfl) (fun j hj => by simp [World.frozen?, hh1])
  have HT := hide (show Touch (fun k => ∃ p, some (⟨g, 0, none⟩ : Addr) = some p ∧ p.block = k) w (W1.setCells g ((n - 1) * 2) [.slice none 0 0, .int .u64 0]) from by
    rw [hW1]
    exact ((((Touch.refl (fun k => k = g) w).drew).trans (setCells_touch _ _ _)).trans (setCells_touch _ _ _)).mono (fun k hk => ⟨_, rfl, hk.symm⟩))
  have HO := hide (show Own (W1.setCells g ((n - 1) * 2) [.slice none 0 0, .int .u64 0]) B 53 2 (some ⟨g, 0, none⟩) (n - 1) c (xs.drop 2) from by
    have hh2 := setCells_at [.slice none 0 0, .int .u64 0] W1 _ ((n - 1) * 2) hh1
    refine ⟨by rw [← hnews]; exact hlen, .inr ⟨g, c, _, rfl, hB, hh2, by omega, hm, by rw [layA_size, hsz1], ?_⟩⟩
    apply List.ext_getElem?
    intro k
    rw [List.getElem?_take]
    by_cases hk : k < (n - 1) * 2
    · rw [if_pos hk, Array.getElem?_toList, layA_get _ _ _ _ (by rw [hsz1]; simp; omega), if_neg (by omega), layA_get _ _ _ _ (by rw [hsz, hlen]; omega), if_pos (by rw [hlen]; omega), hnews]
      rfl
    · rw [if_neg hk, List.getElem?_eq_none (by rw [← hnews, hlen]; omega)])
  have HW : Hid (W1 = w.drew.setCells g (0 + 0 * 2) news) := hW1
  clear hh hcur hcell hfroz hh1 hsz1 hW1 ho hB hsz htk hlE hnews hlen hx1
  have mixed : Tryz.prog.follows .mixedOrders = true := by kernel_rfl
  have hjc : 1 ≤ c := by omega
  have hjn : (1 : Int) ≤ (n : Int) := by omega
  have hq : 0 + (n - 1) = n - 1 := by omega
  have hq2 : n - (n - 1) = 1 := by omega
  have hq3 : ¬ c = n - 1 := by omega
  have hq4 : n - 1 ≤ n := by omega
  have hq5 : n - 1 ≤ c := by omega
  go_enter Tryz.func83, Tryz.ntmps83
  go_wp2_with fail
  go_region_law_o (refine step_append_room rfl (.tmp 22) (.tmp 25) 46 rfl 53 i0 2 Tryz.underlying46 hi0 hz1 g 0 0 c (by simp [Act.eval, Act.put]) ad (n - 1) (c - 1) news (by simp [Act.eval, Act.put]) s1.out hsrc.out s2.out (by omega) s3.out ?_; rw [← HW.out])
  go_wp2_with fail
  go_ret
  exact ⟨rfl, HT.out, HO.out⟩
end Go.Proofs.YtgplpgldhoelcaaGreat

namespace Go.Proofs.YtgplpgldhoelcaaGreat
open Go Go.RowKit
attribute [local go_sem] Oper.semAt_some
structure YnAt (w : World) (b N : Nat) (E : List Edg) (s t : Nat) (Ag : Option Addr) (cg : Nat) (At : Option Addr) (ct : Nat) (rsT : List Rt) (T : List (List Nat)) (Aw : Option Addr) (cw : Nat) (rsW : List Rt) (W : List (List Nat)) : Prop where
  box : Arr w b 130 [.int .i64 (N : Int), .slice Ag E.length cg, .int .i64 (s : Int), .int .i64 (t : Int), .slice At rsT.length ct, .slice Aw rsW.length cw]
  gr : Own w 0 84 3 Ag E.length cg (esCells E)
  told : RtsAt w 0 At ct rsT (rtW E T)
  waits : RtsAt w 0 Aw cw rsW (rtW E W)
  sep : ∀ p q, At = some p → Aw = some q → p.block ≠ q.block
theorem RtsAt.touch {w w' : World} {B : Nat} {A : Option Addr} {c : Nat} {rs : List Rt} {ps : List (List Nat × Nat)} {S : Nat → Prop} (h : RtsAt w B A c rs ps) (ht : Touch S w w') (h1 : ∀ p, A = some p → ¬ S p.block) (h2 : ∀ r, r ∈ rs → ∀ p, r.1 = some p → ¬ S p.block) : RtsAt w' B A c rs ps :=
  ⟨h.own.touch ht h1, fun r hr => (h.rows r hr).touch ht (h2 r hr), h.eqs⟩
theorem Own.not_own {w : World} {B B2 n c size n2 c2 size2 : Nat} {e t : TypeId} {A A2 : Option Addr} {xs ys : List Value} (h : Own w B e size A n c xs) (k : Own w B2 t size2 A2 n2 c2 ys) (hne : e ≠ t) : ∀ p q, A = some p → A2 = some q → p.block ≠ q.block := by
  rintro p q rfl rfl he
  have h1 := (h.ty p rfl).2
  have h2 := (k.ty q rfl).2
  rw [he] at h1
  exact hne (h1.one h2)
theorem Own.ltB {w : World} {B n c size : Nat} {e : TypeId} {A : Option Addr} {xs : List Value} (h : Own w B e size A n c xs) : ∀ p, A = some p → p.block < w.heap.size := fun p hp => by
  subst hp
  exact (World.ownsRow.lt h p.block rfl).2
theorem YnAt.grow {w w' : World} {b N : Nat} {E : List Edg} {s t : Nat} {Ag : Option Addr} {cg : Nat} {At : Option Addr} {ct : Nat} {rsT : List Rt} {T : List (List Nat)} {Aw : Option Addr} {cw : Nat} {rsW : List Rt} {W : List (List Nat)} (h : YnAt w b N E s t Ag cg At ct rsT T Aw cw rsW W) (hg : Grows w w') : YnAt w' b N E s t Ag cg At ct rsT T Aw cw rsW W :=
  ⟨h.box.grow hg, h.gr.grows hg, h.told.grows hg, h.waits.grows hg, h.sep⟩
theorem YnAt.touch {w w' : World} {b N : Nat} {E : List Edg} {s t : Nat} {Ag : Option Addr} {cg : Nat} {At : Option Addr} {ct : Nat} {rsT : List Rt} {T : List (List Nat)} {Aw : Option Addr} {cw : Nat} {rsW : List Rt} {W : List (List Nat)} {S : Nat → Prop} (h : YnAt w b N E s t Ag cg At ct rsT T Aw cw rsW W) (ht : Touch S w w') (hb : ¬ S b) (hg : ∀ p, Ag = some p → ¬ S p.block) (h1 : ∀ p, At = some p → ¬ S p.block) (h2 : ∀ p, Aw = some p → ¬ S p.block) (h3 : ∀ r, (r ∈ rsT ∨ r ∈ rsW) → ∀ p, r.1 = some p → ¬ S p.block) : YnAt w' b N E s t Ag cg At ct rsT T Aw cw rsW W :=
  ⟨h.box.touch ht hb, h.gr.touch ht hg, h.told.touch ht h1 (fun r hr => h3 r (.inl hr)), h.waits.touch ht h2 (fun r hr => h3 r (.inr hr)), h.sep⟩
theorem rts_ins {E : List Edg} {W : List (List Nat)} {rs : List Rt} {Ar : Option Addr} {cr k : Nat} {l : List Nat} (he : rs.map (fun r => (r.2.2.1, r.2.2.2)) = rtW E W) (hk : k ≤ rs.length) :
    (rs.take k ++ (Ar, cr, l, wE E l) :: rs.drop k).flatMap rtC = (rs.flatMap rtC).take (k * 2) ++ [.slice Ar l.length cr, .int .u64 (wE E l : Int)] ++ (rs.flatMap rtC).drop (k * 2) ∧
    (rs.take k ++ (Ar, cr, l, wE E l) :: rs.drop k).map (fun r => (r.2.2.1, r.2.2.2)) = rtW E (W.take k ++ l :: W.drop k) := by
  have hfl : ∀ q : List Rt, (q.flatMap rtC).length = q.length * 2 := fun q => by
    induction q with
    | nil => rfl
    | cons a q ih => rw [List.flatMap_cons, List.length_append, ih, List.length_cons, show (rtC a).length = 2 from rfl]; omega
  constructor
  · have e1 : rs.flatMap rtC = (rs.take k).flatMap rtC ++ (rs.drop k).flatMap rtC := by rw [← List.flatMap_append, List.take_append_drop]
    have l1 : ((rs.take k).flatMap rtC).length = k * 2 := by rw [hfl, List.length_take, Nat.min_eq_left hk]
    rw [e1, List.take_left' l1, List.drop_left' l1, List.flatMap_append, List.flatMap_cons]
    simp [rtC]
  · rw [List.map_append, List.map_cons, List.map_take, List.map_drop, he]
    simp [rtW, List.map_take, List.map_drop]
theorem rts_one (rs : List Rt) : ∀ u ∈ rs.flatMap rtC, u.oneCell' = true := fun u hu => by
  obtain ⟨r, _, h⟩ := List.mem_flatMap.1 hu
  simp [rtC] at h
  rcases h with rfl | rfl <;> rfl
def GiveYp (w : World) (b N : Nat) (E : List Edg) (s t : Nat) (Ag : Option Addr) (cg : Nat) (At : Option Addr) (ct : Nat) (rsT : List Rt) (T : List (List Nat)) (Aw : Option Addr) (W : List (List Nat)) (l : List Nat) (e : Ending) (w' : World) : Prop :=
  e = .returned (.tuple #[]) ∧ ∃ Aw' cw' rsW' W', YnAt w' b N E s t Ag cg At ct rsT T Aw' cw' rsW' W' ∧ Ins E W l W' ∧ Touch (fun k => k = b ∨ ∃ p, Aw = some p ∧ p.block = k) w w' ∧ (∀ p, Aw' = some p → (∃ q, Aw = some q ∧ q.block = p.block) ∨ New w w' p.block)
theorem YnAt.put {w w1 w2 : World} {b N : Nat} {E : List Edg} {s t : Nat} {Ag : Option Addr} {cg : Nat} {At : Option Addr} {ct : Nat} {rsT : List Rt} {T : List (List Nat)} {Aw : Option Addr} {cw : Nat} {rsW : List Rt} {W : List (List Nat)} {Ar : Option Addr} {cr k : Nat} {l : List Nat} {Aw' : Option Addr} {cw' : Nat}
    (h : YnAt w b N E s t Ag cg At ct rsT T Aw cw rsW W) (hg : Grows w w1) (hr : Own w 0 3 1 Ar l.length cr (nv l)) (hk : k ≤ rsW.length)
    (ho : Own w2 0 53 2 Aw' (rsW.length + 1) cw' ((rsW.flatMap rtC).take (k * 2) ++ [.slice Ar l.length cr, .int .u64 (wE E l : Int)] ++ (rsW.flatMap rtC).drop (k * 2))) (ht : Touch (fun j => ∃ p, Aw = some p ∧ p.block = j) w1 w2) (hn : ∀ p, Aw' = some p → (∃ q, Aw = some q ∧ q.block = p.block) ∨ New w1 w2 p.block) :
    ∃ rsW', rsW'.length = rsW.length + 1 ∧ YnAt (w2.setCell ⟨b, 5, none⟩ (.slice Aw' (rsW.length + 1) cw')) b N E s t Ag cg At ct rsT T Aw' cw' rsW' (W.take k ++ l :: W.drop k) ∧ Touch (fun j => j = b ∨ ∃ p, Aw = some p ∧ p.block = j) w (w2.setCell ⟨b, 5, none⟩ (.slice Aw' (rsW.length + 1) cw')) ∧ (∀ p, Aw' = some p → (∃ q, Aw = some q ∧ q.block = p.block) ∨ New w (w2.setCell ⟨b, 5, none⟩ (.slice Aw' (rsW.length + 1) cw')) p.block) := by
  obtain ⟨i1, i2⟩ := rts_ins (Ar := Ar) (cr := cr) (l := l) h.waits.eqs hk
  have hlen : (rsW.take k ++ (Ar, cr, l, wE E l) :: rsW.drop k).length = rsW.length + 1 := by simp; omega
  have h1 := h.grow hg
  have nb : ∀ p, Aw = some p → p.block ≠ b := fun p hp => h1.waits.own.not_arr h1.box (by decide) p hp
  have ni : ∀ {B n c : Nat} {A : Option Addr} {xs : List Value}, Own w1 B 3 1 A n c xs → ∀ p, A = some p → ¬ ∃ q, Aw = some q ∧ q.block = p.block := fun ho p hp ⟨q, hq, he⟩ => ho.not_own h1.waits.own (by decide) p q hp hq he.symm
  have hbox : Arr w2 b 130 [.int .i64 (N : Int), .slice Ag E.length cg, .int .i64 (s : Int), .int .i64 (t : Int), .slice At rsT.length ct, .slice Aw rsW.length cw] := h1.box.touch ht (fun ⟨p, hp, he⟩ => nb p hp he)
  have ho' : ∀ {B n c size : Nat} {e : TypeId} {A : Option Addr} {xs : List Value}, Own w2 B e size A n c xs → e ≠ 130 → Own (w2.setCell ⟨b, 5, none⟩ (.slice Aw' (rsW.length + 1) cw')) B e size A n c xs := fun ho hne =>
    ho.touch (((Touch.refl (fun j => j = b) w2).set (p := ⟨b, 5, none⟩) (.inl rfl) _)) (fun p hp he => ho.not_arr hbox hne p hp he)
  have row : ∀ r : Rt, Own w1 0 3 1 r.1 r.2.2.1.length r.2.1 (nv r.2.2.1) → Own (w2.setCell ⟨b, 5, none⟩ (.slice Aw' (rsW.length + 1) cw')) 0 3 1 r.1 r.2.2.1.length r.2.1 (nv r.2.2.1) := fun r hr => ho' (hr.touch ht (fun p hp => ni hr p hp)) (by decide)
  refine ⟨_, hlen, ⟨?_, ho' (h1.gr.touch ht (fun p hp ⟨q, hq, he⟩ => h1.gr.not_own h1.waits.own (by decide) p q hp hq he.symm)) (by decide), ⟨?_, fun r hr => row r (h1.told.rows r hr), h1.told.eqs⟩, ⟨?_, fun r hrm => ?_, i2⟩, fun p q hp hq => ?_⟩, ?_, fun p hp => ?_⟩
  · rw [hlen]
    exact hbox.set 5 _
  · exact ho' (h1.told.own.touch ht (fun p hp ⟨q, hq, he⟩ => h1.sep p q hp hq he.symm)) (by decide)
  · rw [hlen, i1]
    exact ho' ho (by decide)
  · rcases List.mem_append.1 hrm with hm | hm
    · exact row r (h1.waits.rows r (List.mem_of_mem_take hm))
    · rcases List.mem_cons.1 hm with hm | hm
      · rw [hm]
        exact row _ (hr.grows hg)
      · exact row r (h1.waits.rows r (List.mem_of_mem_drop hm))
  · rcases hn q hq with ⟨q', h3, h4⟩ | h3
    · rw [← h4]
      exact h.sep p q' hp h3
    · have := h1.told.own.ltB p hp
      have h4 := h3.1
      omega
  · exact ((hg.touch _).trans (ht.mono (fun j hj => .inr hj))).set (.inl (.inl rfl)) _
  · rcases hn p hp with h3 | h3
    · exact .inl h3
    · refine .inr ⟨Nat.le_trans hg.size h3.1, ?_⟩
      rw [size_setCell]
      exact h3.2
set_option maxRecDepth 40000 in
set_option maxHeartbeats 8000000 in
theorem yePut (b N : Nat) (E : List Edg) (s t : Nat) (Ag : Option Addr) (cg : Nat) (At : Option Addr) (ct : Nat) (rsT : List Rt) (T : List (List Nat)) (Aw : Option Addr) (cw : Nat) (rsW : List Rt) (W : List (List Nat)) (Ar : Option Addr) (cr : Nat) (l : List Nat) (w : World)
    (h : YnAt w b N E s t Ag cg At ct rsT T Aw cw rsW W) (hs : W.Pairwise (rLt E)) (hn : W.length ≤ 100000) (hl : l.length ≤ 1000000) (hlen : ∀ p ∈ W, p.length ≤ 1000000) (hr : Own w 0 3 1 Ar l.length cr (nv l)) :
    Calls Tryz.prog 80 #[.pointer (some ⟨b, 0, none⟩), rVal Ar l.length cr (wE E l)] w (GiveYp w b N E s t Ag cg At ct rsT T Aw W l) := by
  unfold GiveYp
  have hrl : rsW.length = W.length := by rw [h.waits.len]; simp [rtW]
  have CB := hide (fun (X : World) (g : Grows w X) => slBinR 0 Aw cw rsW E W Ar cr l X (h.waits.grows g) hs (by omega) hl hlen (hr.rd.grows g))
  have HY := hide h
  have HR := hide hr
  have hbx := h.box
  have hb6 : rsW.length ≤ 100000 := by omega
  have HRL := hide hrl
  have HNB := hide (show ¬ ∃ p, Aw = some p ∧ p.block = b from fun ⟨p, hp, he⟩ => h.waits.own.not_arr h.box (by decide) p hp he)
  clear hrl
  unfold rVal at CB ⊢
  by_cases hm : l ∈ W
  · have HI := hide (Ins.same hs hm)
    rw [decide_eq_true hm] at CB
    generalize ltN E l W = z at *
    clear h hr hs hlen hm
    generalize wE E l = fl at *
    generalize l.length = nl at *
    generalize rsW.length = nw at *
    go_enter Tryz.func80, Tryz.ntmps80
    go_wp2_with fail
    ((first | refine wp_region_gen2 (by kernel_rfl) (by kernel_rfl) ?_ | refine wp_region_gen (by kernel_rfl) (by kernel_rfl) ?_); (repeat' (first | (refine gLex_val0 rfl (by kernel_rfl) (fun K hK => ?_); (go_simp; (try (simp only [↓IntWalk.iteOmega]; try go_simp)); (try simp (disch := omega) only [IntWalk.i64_in]); (try simp (disch := omega) only [IntWalk.u64_in]); first | (refine hK _ ?_; clear hK K) | (apply Exists.intro; refine ⟨fun x => ?_, hK _ ?_⟩; (first | (go_at_call 140; exact CB.out _ GG)); clear hK K))) | (refine gLex_undef rfl rfl rfl (by kernel_rfl) (fun K hK => ?_); go_simp; refine hK _ ?_; clear hK K) | (refine gLex_ask rfl rfl rfl ?_; first | (apply gAsk_yes; kernel_rfl; intro K hK; (go_simp; (try (simp only [↓IntWalk.iteOmega]; try go_simp)); (try simp (disch := omega) only [IntWalk.i64_in]); (try simp (disch := omega) only [IntWalk.u64_in]); first | (refine hK _ ?_; clear hK K) | (apply Exists.intro; refine ⟨fun x => ?_, hK _ ?_⟩; (first | (go_at_call 140; exact CB.out _ GG)); clear hK K))) | ((first | apply gAsk_no1 | apply gAsk_no2); kernel_rfl; intro K hK; simp [go_sem]; refine hK _ ?_; clear hK K) | (apply gAsk_part; kernel_rfl; all_goals (intro h K hK; (try simp only [Bool.not_true] at h); (try simp only [Bool.not_false] at h); (try simp only [decide_eq_true_eq] at h); (try simp only [decide_eq_false_iff_not] at h); first | (exfalso; first | contradiction | omega) | (go_simp; (try (simp only [↓IntWalk.iteOmega]; try go_simp)); (try simp (disch := omega) only [IntWalk.i64_in]); (try simp (disch := omega) only [IntWalk.u64_in]); first | (refine hK _ ?_; clear hK K) | (apply Exists.intro; refine ⟨fun x => ?_, hK _ ?_⟩; (first | (go_at_call 140; exact CB.out _ GG)); clear hK K))))))); all_goals ((apply gLex_end); intro y))
    go_wp2_with fail
    first | go_end0 | (rw [Exit.noGoto_normal]; go_end0)
    exact ⟨rfl, Aw, cw, rsW, W, HY.out.grow GG, HI.out, (show Grows w y.now from GG).touch _, fun p hp => .inl ⟨p, hp, rfl⟩⟩
  · have HI := hide (ltN_ins hs hm)
    rw [decide_eq_false hm] at CB
    have hz := ltN_le E l W
    generalize ltN E l W = z at *
    clear h hr hs hlen hm
    have CI := hide (fun (vb : Nat) (X : World) (g : Grows w X) (hv : Arr X vb 53 [.slice Ar l.length cr, .int .u64 (wE E l : Int)]) (hvb : w.heap.size ≤ vb) => insR 0 rsW.length cw z Aw (rsW.flatMap rtC) vb (.slice Ar l.length cr) (.int .u64 (wE E l : Int)) X (Nat.zero_le _) (HY.out.waits.own.grows g) (by have := HRL.out; omega) (by omega) hv (fun p hp => by
      have := HY.out.waits.own.ltB p hp
      omega) rfl rfl (rts_one rsW))
    unfold GiveIn at CI
    have HP := hide (fun (w1 w2 : World) (Aw' : Option Addr) (cw' : Nat) (hg : Grows w w1) => HY.out.put (w1 := w1) (w2 := w2) (Aw' := Aw') (cw' := cw') (k := z) hg HR.out (by have := HRL.out; omega))
    generalize wE E l = fl at *
    generalize l.length = nl at *
    generalize hnw : rsW.length = nw at *
    go_enter Tryz.func80, Tryz.ntmps80
    go_wp2_with fail
    ((first | refine wp_region_gen2 (by kernel_rfl) (by kernel_rfl) ?_ | refine wp_region_gen (by kernel_rfl) (by kernel_rfl) ?_); (repeat' (first | (refine gLex_val0 rfl (by kernel_rfl) (fun K hK => ?_); (go_simp; (try (simp only [↓IntWalk.iteOmega]; try go_simp)); (try simp (disch := omega) only [IntWalk.i64_in]); (try simp (disch := omega) only [IntWalk.u64_in]); first | (refine hK _ ?_; clear hK K) | (apply Exists.intro; refine ⟨fun x => ?_, hK _ ?_⟩; (first | (go_at_call 140; exact CB.out _ GG)); clear hK K))) | (refine gLex_undef rfl rfl rfl (by kernel_rfl) (fun K hK => ?_); go_simp; refine hK _ ?_; clear hK K) | (refine gLex_ask rfl rfl rfl ?_; first | (apply gAsk_yes; kernel_rfl; intro K hK; (go_simp; (try (simp only [↓IntWalk.iteOmega]; try go_simp)); (try simp (disch := omega) only [IntWalk.i64_in]); (try simp (disch := omega) only [IntWalk.u64_in]); first | (refine hK _ ?_; clear hK K) | (apply Exists.intro; refine ⟨fun x => ?_, hK _ ?_⟩; (first | (go_at_call 140; exact CB.out _ GG)); clear hK K))) | ((first | apply gAsk_no1 | apply gAsk_no2); kernel_rfl; intro K hK; simp [go_sem]; refine hK _ ?_; clear hK K) | (apply gAsk_part; kernel_rfl; all_goals (intro h K hK; (try simp only [Bool.not_true] at h); (try simp only [Bool.not_false] at h); (try simp only [decide_eq_true_eq] at h); (try simp only [decide_eq_false_iff_not] at h); first | (exfalso; first | contradiction | omega) | (go_simp; (try (simp only [↓IntWalk.iteOmega]; try go_simp)); (try simp (disch := omega) only [IntWalk.i64_in]); (try simp (disch := omega) only [IntWalk.u64_in]); first | (refine hK _ ?_; clear hK K) | (apply Exists.intro; refine ⟨fun x => ?_, hK _ ?_⟩; (first | (go_at_call 140; exact CB.out _ GG)); clear hK K))))))); all_goals ((apply gLex_end); intro y))
    go_wp2_with fail
    go_region_with (go_at_call 142; refine (CI.out _ _ GG ((Arr.make _ _ _).grow (Grows.refl _).drew) (by have := y.size; simp at this ⊢; omega)).mono ?_; rintro e w' ⟨A3, c3, rfl, ho3, ht3, hn3⟩; have m5 : Mine w' ⟨b, 5, none⟩ (.slice Aw nw cw) := ((hbx.grow (show Grows w ((y.now.alloc (.cells #[.slice Ar nl cr, .int .u64 (fl : Int)] 53)).drew) from GG)).touch ht3 HNB.out).mine 5 rfl; have HX := hide (And.intro ho3 (And.intro ht3 hn3)); clear ho3 ht3 hn3)
    all_goals go_wp2_with fail
    all_goals (first | go_end0 | (rw [Exit.noGoto_normal]; go_end0))
    all_goals (
      obtain ⟨rsW', h1, h2, h3, h4⟩ := HP.out ((y.now.alloc (.cells #[.slice Ar nl cr, .int .u64 (fl : Int)] 53)).drew) w' A3 c3 GG HX.out.1 HX.out.2.1 HX.out.2.2
      exact ⟨rfl, A3, c3, rsW', _, h2, HI.out, h3, h4⟩)
end Go.Proofs.YtgplpgldhoelcaaGreat

namespace Go.Proofs.YtgplpgldhoelcaaGreat
open Go Go.RowKit
def wtK (E : List Edg) (l : List Int) : Nat → Int
  | 0 => 0
  | k + 1 => wtK E l k + (ge E (gi l k).toNat).w
theorem wtK_succ (E : List Edg) (l : List Int) (k : Nat) : wtK E l (k + 1) = wtK E l k + (ge E (gi l k).toNat).w := rfl
theorem right_weight {N : Int} {E : List Edg} (h : rightF N E = 0) {k : Nat} (hk : k < E.length) : 1 ≤ (ge E k).w ∧ (ge E k).w ≤ 4294967296 := by
  unfold rightF at h
  split at h
  · omega
  · split at h
    · omega
    · split at h
      · omega
      · split at h
        · omega
        · rename_i h4
          have h5 : E.any heavyB = false := by simpa using h4
          rw [List.any_eq_false] at h5
          have hm : ge E k ∈ E := by
            unfold ge
            rw [List.getD_eq_getElem?_getD, List.getElem?_eq_getElem hk]
            exact List.getElem_mem _
          have := h5 _ hm
          unfold heavyB wtB at this
          simpa using this
theorem edges_in2 {N : Int} {E : List Edg} {l : List Int} (h : edgesB N E l = true) {k : Nat} (hk : k < l.length) : rightF N E = 0 ∧ 0 ≤ gi l k ∧ (gi l k).toNat < E.length := by
  unfold edgesB at h
  simp only [Bool.and_eq_true, Bool.not_eq_true', List.any_eq_false, decide_eq_true_eq] at h
  have := h.2 _ (gi_mem hk)
  unfold edgeB at this
  simp at this
  exact ⟨h.1, by omega, by omega⟩
theorem wtK_bd {N : Int} {E : List Edg} {l : List Int} (h : edgesB N E l = true) : ∀ k, k ≤ l.length → 0 ≤ wtK E l k ∧ wtK E l k ≤ k * 4294967296
  | 0, _ => by simp [wtK]
  | k + 1, hk => by
    have ih := wtK_bd h k (by omega)
    obtain ⟨h1, h2, h3⟩ := edges_in2 h (k := k) (by omega)
    have := right_weight h1 h3
    rw [wtK_succ]
    omega
def ofL (E : List Edg) (l : List Int) (n k : Nat) : List Int := (List.range n).map fun j => if j ≤ k then wtK E l j else 0
theorem ofL_len (E : List Edg) (l : List Int) (n k : Nat) : (ofL E l n k).length = n := by simp [ofL]
theorem ofL_at (E : List Edg) (l : List Int) {n k j : Nat} (hj : j < n) (hk : j ≤ k) : (ofL E l n k)[j]? = some (wtK E l j) := by simp [ofL, hj, hk]
theorem ofL_start (E : List Edg) (l : List Int) (n : Nat) : (ofL E l n 0).map (Value.int .u64) = List.replicate n (.int .u64 0) := by
  apply List.ext_getElem (by simp [ofL])
  intro j h1 h2
  simp only [ofL, List.map_map, List.getElem_map, List.getElem_range, List.getElem_replicate, Function.comp]
  split
  · rename_i h
    have : j = 0 := by omega
    subst this
    rfl
  · rfl
theorem ofL_next (E : List Edg) (l : List Int) (n k : Nat) : ((ofL E l n k).map (Value.int .u64)).set (k + 1) (.int .u64 (wtK E l (k + 1))) = (ofL E l n (k + 1)).map (.int .u64) := by
  apply List.ext_getElem (by simp [ofL])
  intro j h1 h2
  rw [List.getElem_set]
  simp only [ofL, List.map_map, List.getElem_map, List.getElem_range, Function.comp]
  by_cases hj : k + 1 = j
  · subst hj; simp
  · rw [if_neg hj]
    by_cases h3 : j ≤ k
    · rw [if_pos h3, if_pos (by omega)]
    · rw [if_neg h3, if_neg (by omega)]
theorem ofL_end (E : List Edg) (l : List Int) (n : Nat) : ofL E l (n + 1) n = (List.range (n + 1)).map (wtK E l) := by
  unfold ofL
  apply List.map_congr_left
  intro j hj
  rw [if_pos (by have := List.mem_range.1 hj; omega)]
def OffPost (E : List Edg) (l : List Int) (b : Bool) (w : World) (e : Ending) (w' : World) : Prop :=
  if b then ∃ g c, e = .returned (.slice (some ⟨g, 0, none⟩) (l.length + 1) c) ∧ Rd w' (some ⟨g, 0, none⟩) 1 (l.length + 1) (((List.range (l.length + 1)).map (wtK E l)).map (.int .u64)) ∧ Grows w w'
  else e = .returned (.slice none 0 0) ∧ Grows w w'
set_option maxRecDepth 20000 in
set_option maxHeartbeats 2000000 in
theorem pOffsets (N : Int) (A : Option Addr) (m c : Nat) (E : List Edg) (B : Option Addr) (n d : Nat) (l : List Int) (w : World) (h : Rd w A 3 m (esCells E)) (hm : m ≤ 1000000) (h' : Rd w B 1 n (l.map (.int .i64))) (hn : n ≤ 1000000) :
    Calls Tryz.prog 148 #[.agg #[.int .i64 N, .slice A m c], .slice B n d] w (OffPost E l (edgesB N E l) w) := by
  have HL := hide (show l.length = n by simpa using h'.len)
  have HE := hide h.elen
  have C1 := fun (W : World) (g : Grows w W) => pEdges N A m c E B n d l W (h.grows g) hm (h'.grows g) hn
  have HR := hide h
  have HS := hide h'
  clear h h'
  cases he : edgesB N E l with
  | false =>
    rw [he] at C1
    have H1 := hide C1
    clear C1 he
    go_enter Tryz.func148, Tryz.ntmps148
    go_wp2_with (first | (go_at_call 194; refine (H1.out _ GG).mono ?_; rintro e w' ⟨rfl, hg⟩; (first | obtain ⟨x, rfl⟩ := Grows.later2 hg | obtain ⟨x, rfl⟩ := Grows.later hg); clear hg))
    go_ret
    exact ⟨rfl, GG⟩
  | true =>
    have HI := hide (fun k (hk : k < n) => edges_in2 he (k := k) (by rw [HL.out]; exact hk))
    have HB := hide (fun k (hk : k ≤ n) => wtK_bd he k (by rw [HL.out]; exact hk))
    rw [he] at C1
    have H1 := hide C1
    clear C1 he
    go_enter Tryz.func148, Tryz.ntmps148
    go_wp2_with (first | (go_at_call 194; refine (H1.out _ GG).mono ?_; rintro e w' ⟨rfl, hg⟩; obtain ⟨x, rfl⟩ := hg.later; clear hg) | (at_make; refine wp_make1 elemU64 rfl _ _ rfl x.now (Grows.refl _) (n + 1) rfl rfl (by omega) (by omega) (by omega) ?_; intro g0 y0 hg0 hown0; have HO0 := hide hown0; clear hown0))
    go_loopw [18] (fun i wr => ∃ k : Nat, k ≤ n ∧ i = .int .i64 (k : Int) ∧ ∃ y : Later x.now, wr = y.now ∧ Own y.now x.now.heap.size 41 1 (some ⟨g0, 0, none⟩) (n + 1) (n + 1) ((ofL E l (n + 1) k).map (.int .u64))) (fun i _ => n - (intOf i).toNat)
    case atStart => exact ⟨0, by omega, by go_num, y0, rfl, by rw [ofL_start]; exact HO0.out⟩
    case round =>
      obtain ⟨k, hk, rfl, y, rfl, hown⟩ := hrel
      have HO := hide hown
      clear hown
      by_cases hend : n ≤ k
      · have hkm : k = n := by omega
        subst hkm
        have hr := HO.out.rd
        rw [ofL_end] at hr
        have HRd := hide hr
        clear hr
        go_wp2
        go_ret
        exact ⟨g0, k + 1, by rw [HL.out]; rfl, by rw [HL.out]; exact HRd.out, GG⟩
      · obtain ⟨b, off, rfl, hc⟩ := HS.out.intsH (by omega)
        have c1 := hc k (by omega)
        obtain ⟨i0, i1, i2⟩ := HI.out k (by omega)
        have hw := right_weight i0 i2
        rw [HE.out] at i2
        obtain ⟨b2, off2, rfl, hc2⟩ := HR.out.edgesH (by omega)
        obtain ⟨c2, c3, c4⟩ := hc2 (gi l k).toNat i2
        obtain ⟨b0, b1⟩ := HB.out k (by omega)
        have HN := hide (wtK_succ E l k)
        have HX := hide (ofL_next E l (n + 1) k)
        obtain ⟨g, hg, hgB, hcs⟩ := HO.out.at (by omega)
        injection hg with hg
        injection hg with hg
        subst hg
        have m1 := hcs k _ (by rw [List.getElem?_map, ofL_at E l (by omega) (Nat.le_refl k)]; rfl)
        obtain ⟨u, hu⟩ : ∃ u, ((ofL E l (n + 1) k).map (Value.int .u64))[k + 1]? = some u := ⟨_, List.getElem?_eq_getElem (by rw [List.length_map, ofL_len]; omega)⟩
        have m2 := hcs (k + 1) _ hu
        clear hc hc2 i0 hcs hu
        generalize wtK E l k = a at *
        generalize (ge E (gi l k).toNat).w = v at *
        generalize hq : gi l k = q at *
        obtain ⟨q, rfl⟩ := Int.eq_ofNat_of_zero_le i1
        simp only [Int.toNat_natCast] at i2 c2 c3 c4
        go_wp2_with fail
        go_region
        go_wp2
        refine ⟨⟨k + 1, by omega, by go_num, ⟨_, (y.grows.set (p := ⟨g0, k + 1, none⟩) hgB (.int .u64 (a + v))).drew⟩, rfl, ?_⟩, by simp [intOf]; omega⟩
        rw [← HX.out, HN.out]
        exact (HO.out.set rfl (by omega) (k + 1) (.int .u64 (a + v))).grows ((Grows.refl _).drew)
set_option maxRecDepth 20000 in
set_option maxHeartbeats 2000000 in
theorem pWeight (N : Int) (A : Option Addr) (m c : Nat) (E : List Edg) (B : Option Addr) (n d : Nat) (l : List Int) (w : World) (h : Rd w A 3 m (esCells E)) (hm : m ≤ 1000000) (h' : Rd w B 1 n (l.map (.int .i64))) (hn : n ≤ 1000000) :
    Calls Tryz.prog 87 #[.agg #[.int .i64 N, .slice A m c], .slice B n d] w fun e w' => e = .returned (.tuple #[.int .u64 (if edgesB N E l then wtK E l l.length else 0), .bool (edgesB N E l)]) ∧ Grows w w' := by
  have hnil := fun (w : World) (a : Option Addr) (n c n' c' : Nat) => Lib.run_eql_slice_nil (P := Tryz.prog) w 82 41 a n c n' c' Tryz.underlying82
  have HL := hide (show l.length = n by simpa using h'.len)
  have H1 := hide (fun (W : World) (g : Grows w W) => pOffsets N A m c E B n d l W (h.grows g) hm (h'.grows g) hn)
  clear h h'
  cases he : edgesB N E l with
  | false =>
    rw [he] at H1
    clear he
    go_enter Tryz.func87, Tryz.ntmps87
    go_wp2_with (go_at_call 148; refine (H1.out _ GG).mono ?_; rintro e w' ⟨rfl, hg⟩; obtain ⟨x, rfl⟩ := hg.later; clear hg)
    go_ret2
    exact ⟨rfl, GG⟩
  | true =>
    rw [he] at H1
    clear he
    go_enter Tryz.func87, Tryz.ntmps87
    go_wp2_with (go_at_call 148; refine (H1.out _ GG).mono ?_; rintro e w' ⟨g0, c0, rfl, hr, hg⟩; obtain ⟨x, rfl⟩ := hg.later; rw [HL.out] at hr; rw [HL.out]; obtain ⟨b, off, hb, hc⟩ := hr.intsH (by omega); injection hb with hb; injection hb with hb1 hb2; subst hb1; subst hb2; have c1 := hc n (by omega); rw [show gi ((List.range (n + 1)).map (wtK E l)) n = wtK E l n by simp [gi]] at c1; simp only [Nat.zero_add] at c1; clear hg hc hr)
    go_ret2
    exact ⟨by rw [HL.out]; rfl, GG⟩
end Go.Proofs.YtgplpgldhoelcaaGreat

namespace Go.Proofs.YtgplpgldhoelcaaGreat
open Go Go.RowKit
attribute [local go_sem] Oper.semAt_some
theorem nv_ci (l : List Nat) : nv l = (ciL l).map (.int .i64) := by simp [nv, ciL]
theorem ciL_gn {l : List Nat} {k : Nat} (h : k < l.length) : gi (ciL l) k = (gn l k : Int) := by
  rw [ciL_gi h]
  simp [gn, h]
theorem isW.link {E : List Edg} {t v : Nat} {l : List Nat} (h : isW E t v l) {k : Nat} (hk : k < l.length) : fN E (gn l k) = ndAt E v l k ∧ gn l k < E.length := by
  have h1 := (h.cut k (by omega)).2
  rw [drop_gn hk] at h1
  exact ⟨h1.2.1, h1.1⟩
theorem ndAt_get {E : List Edg} {v : Nat} {l : List Nat} {k : Nat} (hk : k ≤ l.length) : (ndsN E v l)[k]'(by rw [ndsN_len]; omega) = ndAt E v l k := by
  have : k < (ndsN E v l).length := by rw [ndsN_len]; omega
  simp [ndAt, gn, this]
theorem isW.lk {N : Nat} {E : List Edg} {t v : Nat} {l : List Nat} (hE : InN N E) (h : isW E t v l) : ∀ k, k ≤ l.length → lkB E (v : Int) (ciL l) k = true
  | 0, _ => rfl
  | k + 1, hk => by
    have hk' : k < l.length := by omega
    obtain ⟨h1, h2⟩ := h.link hk'
    show (lkB E (v : Int) (ciL l) k && decide ((ge E (gi (ciL l) k).toNat).f = ndI E v (ciL l) k)) = true
    rw [h.lk hE k (by omega), ndI_is hE h.edges k (by omega), ciL_gn hk', Int.toNat_natCast, (hE.f _ h2).2, h1, ndAt_get (by omega)]
    simp
theorem isW.eds {N : Nat} {E : List Edg} {t v : Nat} {l : List Nat} (h : isW E t v l) (hr : rightF (N : Int) E = 0) (l' : List Nat) (hs : ∀ i ∈ l', i ∈ l) : edgesB (N : Int) E (ciL l') = true := by
  unfold edgesB
  rw [decide_eq_true hr, Bool.true_and]
  have : (ciL l').any (fun e => !edgeB E.length e) = false := by
    rw [List.any_eq_false]
    intro e he
    obtain ⟨i, hi, rfl⟩ := List.mem_map.1 he
    have := h.edges i (hs i hi)
    unfold edgeB
    simp
    omega
  rw [this]
  rfl
theorem isW.is {N : Nat} {E : List Edg} {t v : Nat} {l : List Nat} (h : isW E t v l) (hr : rightF (N : Int) E = 0) (hv : v < N) : isB (N : Int) E (v : Int) (ciL l) = true := by
  obtain ⟨_, _, _, r4, _⟩ := right_in hr
  rw [Int.toNat_natCast] at r4
  unfold isB
  rw [h.eds hr l (fun _ hi => hi), ciL_len, h.lk r4 _ (Nat.le_refl _), show nodeB (N : Int) (v : Int) = true from decide_eq_true ⟨by omega, by omega⟩]
  rfl
theorem wtK_is {N : Nat} {E : List Edg} (hr : rightF (N : Int) E = 0) {l : List Nat} (h : ∀ i ∈ l, i < E.length) : ∀ k, k ≤ l.length → wtK E (ciL l) k = (wE E (l.take k) : Int)
  | 0, _ => rfl
  | k + 1, hk => by
    have hk' : k < l.length := by omega
    have hm : gn l k ∈ l := by simp [gn, hk']
    have := right_weight hr (h _ hm)
    rw [wtK_succ, wtK_is hr h k (by omega), take_succ_gn hk', wE_append, ciL_gn hk', Int.toNat_natCast, wE_cons, wE_nil]
    omega
def GiveNd (w : World) (E : List Edg) (s : Nat) (l : List Nat) (e : Ending) (w' : World) : Prop := ∃ A c, e = .returned (.tuple #[.slice A (l.length + 1) c, .bool true]) ∧ Own w' w.heap.size 3 1 A (l.length + 1) c (nv (ndsN E s l)) ∧ Grows w w'
set_option maxRecDepth 20000 in
set_option maxHeartbeats 4000000 in
theorem pNodesO (N : Nat) (A : Option Addr) (m c : Nat) (E : List Edg) (s t : Nat) (B : Option Addr) (n d : Nat) (l : List Nat) (w : World) (h : Rd w A 3 m (esCells E)) (hm : m ≤ 1000000) (h' : Rd w B 1 n (nv l)) (hn : n ≤ 1000000) (hr : rightF (N : Int) E = 0) (hs : s < N) (hw : isW E t s l) :
    Calls Tryz.prog 145 #[.agg #[.int .i64 (N : Int), .slice A m c], .int .i64 (s : Int), .slice B n d] w (GiveNd w E s l) := by
  have HL := hide (show l.length = n by simpa [nv] using h'.len)
  have HE := hide h.elen
  have C1 := fun (W : World) (g : Grows w W) => pEdges (N : Int) A m c E B n d (ciL l) W (h.grows g) hm (by rw [← nv_ci]; exact h'.grows g) hn
  have C2 := fun (W : World) => gNode (N : Int) (s : Int) (.slice A m c) W
  rw [hw.eds hr l (fun _ hi => hi)] at C1
  rw [show nodeB (N : Int) (s : Int) = true from decide_eq_true ⟨by omega, by omega⟩] at C2
  have H1 := hide C1
  have H2 := hide C2
  have HR := hide h
  have HS := hide h'
  have HK := hide (fun (k : Nat) (hk : k < n) => hw.link (k := k) (by rw [HL.out]; exact hk))
  have HI := hide (show InN N E from by have := (right_in hr).2.2.2.1; rwa [Int.toNat_natCast] at this)
  have HNV := hide (fun (k : Nat) => show nv ((ndsN E s l).take (k + 1)) = ((ciL (ndsN E s l)).take (k + 1)).map (.int .i64) from by rw [nv_ci]; simp [ciL, List.map_take])
  unfold GiveNd
  clear h h' C1 C2 hw hr hs
  go_enter Tryz.func145, Tryz.ntmps145
  go_wp2_with (first | (go_at_call 194; refine (H1.out _ GG).mono ?_; rintro e w' ⟨rfl, hg⟩; (first | obtain ⟨x, rfl⟩ := Grows.later2 hg | obtain ⟨x, rfl⟩ := Grows.later hg); clear hg) | (go_at_call 77; refine (H2.out _).mono ?_; rintro e w' ⟨rfl, hg⟩; (first | obtain ⟨x, rfl⟩ := Grows.later2 hg | obtain ⟨x, rfl⟩ := Grows.later hg); clear hg))
  go_loopw [25, 8, 1] (fun i u t wr => ∃ k : Nat, k ≤ n ∧ i = .int .i64 (k : Int) ∧ t = .int .i64 (ndAt E s l k : Int) ∧ ∃ y : Later (w.alloc (.cells #[.int .i64 (N : Int), .slice A m c] 35)), wr = y.now ∧
    ∃ A' c', u = .slice A' (k + 1) c' ∧ Own y.now (w.alloc (.cells #[.int .i64 (N : Int), .slice A m c] 35)).heap.size 3 1 A' (k + 1) c' (nv ((ndsN E s l).take (k + 1)))) (fun i _ _ _ => n - (Go.RowKit.intOf i).toNat)
  case atStart =>
    refine ⟨0, by omega, by go_num, rfl, ⟨_, x.grows.new _⟩, rfl, _, _, rfl, ?_⟩
    exact Own.build x.now 3 [.int .i64 (s : Int)] _ x.size (by simp)
  case round =>
    obtain ⟨k, hk, rfl, rfl, y, rfl, A', c', rfl, hown⟩ := hrel
    have HO := hide hown
    clear hown
    by_cases hend : n ≤ k
    · have hkm : k = n := by omega
      subst hkm
      go_wp2
      have hz : (ndsN E s l).take (k + 1) = ndsN E s l := List.take_of_length_le (by rw [ndsN_len, HL.out]; omega)
      rw [hz] at HO
      have HO2 := hide (HO.out.base (B' := w.heap.size) (by simp))
      clear hz
      go_ret2
      exact ⟨A', c', by rw [HL.out]; rfl, by rw [HL.out]; exact HO2.out, GG⟩
    · obtain ⟨b, off, rfl, hc⟩ := HS.out.natsH (by omega)
      have c1 := hc k (by omega)
      obtain ⟨i1, i2⟩ := HK.out k (by omega)
      have HN := hide (show (ndsN E s l).take (k + 1 + 1) = (ndsN E s l).take (k + 1) ++ [ndAt E s l (k + 1)] from take_succ_gn (by rw [ndsN_len, HL.out]; omega))
      have HT := hide (show tN E (gn l k) = ndAt E s l (k + 1) from by
        have h1 : k < l.length := by rw [HL.out]; omega
        have : (ndsN E s l)[k + 1]? = some (tN E (gn l k)) := by simp [ndsN, gn, h1]
        simp [ndAt, gn, this])
      have hff := (HI.out.f _ i2).2
      have htt := (HI.out.t _ i2).2
      rw [HE.out] at i2
      obtain ⟨b2, off2, rfl, hc2⟩ := HR.out.edgesH (by omega)
      obtain ⟨c2, c3, c4⟩ := hc2 (gn l k) i2
      rw [hff, i1] at c2
      rw [htt, HT.out] at c3
      clear hc hc2 i1 hff htt
      generalize gn l k = q at *
      go_wp2_with (at_builtin; refine wp_app1 elemInt rfl _ _ rfl _ GG (k + 1) c' A' _ rfl (HO.out.new _) _ _ _ rfl inferInstance rfl (by omega) ?_; intro A3 c3 y3 hown3; have HO3 := hide hown3; clear hown3)
      go_roundw
      case measure => simp [Go.RowKit.intOf]; omega
      case rel =>
        refine ⟨k + 1, by omega, by go_num, rfl, y3, rfl, A3, c3, rfl, ?_⟩
        rw [HN.out, show nv ((ndsN E s l).take (k + 1) ++ [ndAt E s l (k + 1)]) = nv ((ndsN E s l).take (k + 1)) ++ [.int .i64 (ndAt E s l (k + 1) : Int)] by simp [nv]]
        exact HO3.out
end Go.Proofs.YtgplpgldhoelcaaGreat

namespace Go.Proofs.YtgplpgldhoelcaaGreat
open Go Go.RowKit
theorem growI (n : Nat) (w : World) (hn : n ≤ 1000000) : Calls Tryz.prog 231 #[.slice none 0 0, .int .i64 (n : Int)] w fun e w' => ∃ A c, e = .returned (.slice A 0 c) ∧ Own w' w.heap.size 3 1 A 0 c [] ∧ Grows w w' := by
  rcases Nat.eq_zero_or_pos n with h0 | h0
  · subst h0
    go_enter Tryz.func231, Tryz.ntmps231
    go_wp2
    go_ret
    exact ⟨none, 0, rfl, Own.nil _ _ _ _, GG⟩
  · have h : (Tryz.prog.info? 3).map (fun i => (i.zero, i.size, i.bytes)) = some (some (.int .i64 0), 1, 8) := by kernel_rfl
    obtain ⟨i, hi, hz, hs, hb⟩ := info_parts h
    have HR := hide (fun (W : World) ty => Lib.run_append_nil_zeros (P := Tryz.prog) W 22 3 ty 3 i (.int .i64 0) .i64 .i64 Tryz.underlying22 Tryz.underlying3 hi hz n h0 (by omega) (by omega) (by rw [hb]; omega))
    clear h hi hz hs hb
    have hlt : decide ((0 : Int) < (n : Int)) = true := decide_eq_true (by omega)
    have hlt2 : decide (0 < n) = true := decide_eq_true (by omega)
    go_enter Tryz.func231, Tryz.ntmps231
    go_wp2_with (at_builtin; refine Lib.wpList_append_run _ rfl _ _ _ _ rfl _ _ rfl rfl _ _ (HR.out _ _) ?_)
    go_ret
    refine ⟨some ⟨w.heap.size, 0, none⟩, grownCap w n 0 3, rfl, ⟨rfl, .inr ⟨w.heap.size, grownCap w n 0 3, Builtin.zeroCells #[.int .i64 0] n ++ Builtin.zeroCells #[.int .i64 0] (grownCap w n 0 3 - n), rfl, Nat.le_refl _, (by show (w.heap.push _)[w.heap.size]? = _; rw [Array.getElem?_push_size]), Nat.zero_le _, grownCap_le_maxLen w n 0 3 (by unfold maxLen; omega), ?_, by simp⟩⟩, GG⟩
    have := grownCap_ge w n 0 3
    rw [Array.size_append, size_zeroCells, size_zeroCells]
    show n * 1 + (grownCap w n 0 3 - n) * 1 = _
    omega
theorem add_pl (b off i : Nat) : (⟨b, off, none⟩ : Addr).add i = ⟨b, off + i, none⟩ := by
  unfold Addr.add
  split
  · rename_i h; rw [h, Nat.add_zero]
  · rfl
section
variable {w : World} {e : TypeId} {ops : Array Oper} {rest : List Oper} {o : Oper} {a : Act} {Q : Exit → Act → World → Prop}
theorem wp_appRow {t : TypeId} (E : Elem t e 1) (hgd : o.guard = none) (s x : Operand) (ho : o.op = .call { callee := .builtin .append, args := #[s, x], argTypes := #[t, t] })
    (w0 : World) (hw0 : Grows w0 w) (n c : Nat) (A : Option Addr) (xs : List Value) (hs : a.eval s = .slice A n c) (hown : Own w w0.heap.size e 1 A n c xs) (B : Option Addr) (m d : Nat) (ys : List Value) (hx : a.eval x = .slice B m d)
    (hr : Rd w B 1 m ys) (hnil : B = none → m = 0 ∧ d = 0) (h1 : ∀ u ∈ ys, u.oneCell' = true) (hnm : n + m ≤ 1000000000000)
    (h : ∀ A' c'' (y : Later w0), Own y.now w0.heap.size e 1 A' (n + m) c'' (xs ++ ys) → wpList Tryz.prog ops Q rest (a.put o.dst (.slice A' (n + m) c'')) y.now) :
    wpList Tryz.prog ops Q (o :: rest) a w := by
  obtain ⟨i, z, bytes, hi, hz, hsz, hby, hzs, hb64⟩ := E.info
  cases hB : B with
  | none =>
    obtain ⟨rfl, rfl⟩ := hnil hB
    subst hB
    have hy : ys = [] := List.eq_nil_of_length_eq_zero (by have := hr.len; omega)
    subst hy
    have hrun := run_append_owned_none (P := Tryz.prog) w w0.heap.size t o.type e i 1 E.under hi (.slice A n c) n xs hown
    refine Lib.wpList_append_run w hgd s x t t ho (.slice A n c) (.slice none 0 0) hs hx (.slice A n c) w hrun ?_
    obtain ⟨y, rfl⟩ := hw0.later
    exact h A c y (by rw [List.append_nil]; exact hown)
  | some ad =>
    subst hB
    refine wpList_append_own w hgd s x t ho w0.heap.size e i z 1 bytes E.under hi hz hsz hby hzs E.pos (.slice A n c) n xs hs hown ad m d ys hx (by have := hr.len; omega) (fun j u hu => ?_) h1 (by unfold maxLen; omega) ?_ hw0.size ?_
    · have hj := (List.getElem?_eq_some_iff.1 hu).1
      have hl := hr.len
      obtain ⟨b, off, he, hc⟩ := hr.at_ (by omega)
      obtain rfl : ad = ⟨b, off, none⟩ := Option.some.inj he
      rw [add_pl]
      exact hc j u hu
    · exact Nat.le_trans (Nat.mul_le_mul hnm hb64) (by omega)
    · intro v' w' hown' hgr _
      obtain ⟨A', c'', rfl⟩ := own_form hown'
      have hgw : Grows w0 w' := by
        refine ⟨hgr.os.trans hw0.os, hgr.tape.trans hw0.tape, hgr.output.trans hw0.output, Nat.le_trans hw0.size hgr.size, fun k hk => ?_⟩
        refine (hgr.block k (Nat.lt_of_lt_of_le hk hw0.size) fun e => ?_).trans (hw0.block k hk)
        have := World.ownsRow.lt hown k e.symm
        omega
      obtain ⟨y, rfl⟩ := hgw.later
      exact h A' c'' y hown'
end
def szK (R : List Row) : Nat → Nat
  | 0 => 0
  | k + 1 => szK R k + (gr R k).n
def ccK (R : List Row) : Nat → List Int
  | 0 => []
  | k + 1 => ccK R k ++ (gr R k).xs
theorem szK_le {R : List Row} (h : ∀ k, k < R.length → (gr R k).n ≤ 60) (k : Nat) (hk : k ≤ R.length) : szK R k ≤ k * 60 := by
  induction k with
  | zero => simp [szK]
  | succ k ih => have := h k (by omega); have := ih (by omega); show szK R k + _ ≤ _; omega
set_option maxRecDepth 20000 in
set_option maxHeartbeats 4000000 in
theorem concatI (B : Option Addr) (m d : Nat) (R : List Row) (w : World) (hr : Rd w B 1 m (R.map rowVal)) (hm : m ≤ 1000) (hR : ∀ k, k < m → Rd w (gr R k).A 1 (gr R k).n ((gr R k).xs.map (.int .i64)) ∧ (gr R k).n ≤ 60 ∧ ((gr R k).A = none → (gr R k).n = 0 ∧ (gr R k).c = 0)) :
    Calls Tryz.prog 195 #[.slice B m d] w fun e w' => ∃ A c, e = .returned (.slice A (ccK R m).length c) ∧ Own w' w.heap.size 3 1 A (ccK R m).length c ((ccK R m).map (.int .i64)) ∧ Grows w w' := by
  have HM := hide (show R.length = m by simpa using hr.len)
  have HSz := hide (fun k (hk : k ≤ m) => szK_le (R := R) (fun k hk => (hR k (by rw [← HM.out]; exact hk)).2.1) k (by rw [HM.out]; exact hk))
  have HB := hide hr
  have HR := hide hR
  clear hr hR
  go_enter Tryz.func195, Tryz.ntmps195
  go_wp2_with fail
  go_loopw [11, 3] (fun i u wr => ∃ k : Nat, k ≤ m ∧ i = .int .i64 (k : Int) ∧ u = .int .i64 (szK R k : Int) ∧ w = wr) (fun i _ _ => m - (intOf i).toNat)
  case atStart => exact ⟨0, by omega, by go_num, rfl, rfl⟩
  case round =>
    obtain ⟨k, hk, rfl, rfl, rfl⟩ := hrel
    by_cases hend : m ≤ k
    · have hkm : k = m := by omega
      subst hkm
      have hs := HSz.out k (Nat.le_refl _)
      have HG := hide (fun W => growI (szK R k) W (by omega))
      go_wp2_with (go_at_call 231; refine (HG.out _).mono ?_; rintro e w' ⟨A1, c1, rfl, hown, hg⟩; obtain ⟨x, rfl⟩ := hg.later; have HO := hide hown; clear hg hown)
      go_loopw [27, 6] (fun i u wr => ∃ q : Nat, q ≤ k ∧ i = .int .i64 (q : Int) ∧ ∃ y : Later w, wr = y.now ∧ ∃ A2 c2 s2, u = .slice A2 s2 c2 ∧ Hid (s2 = (ccK R q).length) ∧ Hid (s2 = szK R q) ∧ Own y.now w.heap.size 3 1 A2 s2 c2 ((ccK R q).map (.int .i64))) (fun i _ _ => k - (intOf i).toNat)
      case atStart => exact ⟨0, by omega, by go_num, x, rfl, A1, c1, 0, rfl, rfl, rfl, HO.out⟩
      case round =>
        obtain ⟨q, hq, rfl, y, rfl, A2, c2, s2, rfl, HS2, HS3, hown2⟩ := hrel
        have HO2 := hide hown2
        clear hown2
        by_cases hend2 : k ≤ q
        · have hqk : q = k := by omega
          subst hqk
          go_wp2
          go_ret
          exact ⟨A2, c2, by rw [← HS2.out]; rfl, by rw [← HS2.out]; exact HO2.out, GG⟩
        · obtain ⟨b, off, rfl, hc⟩ := HB.out.rows (by omega)
          have k1 := Holds.mk (hc q (by omega))
          have hs2 : s2 ≤ 1000000 := by have := HS3.out; have := HSz.out q (by omega); omega
          obtain ⟨r1, r2, r3⟩ := HR.out q (by omega)
          have HR1 := hide r1
          have HR3 := hide r3
          have HN : Hid (ccK R (q + 1) = ccK R q ++ (gr R q).xs) := rfl
          have HNs : Hid (szK R (q + 1) = szK R q + (gr R q).n) := rfl
          have HXl := hide (show (gr R q).xs.length = (gr R q).n by simpa using r1.len)
          clear hc r1 r3
          generalize gr R q = row at *
          obtain ⟨RA, rn, rc, rx⟩ := row
          dsimp only at *
          go_wp2_with (at_builtin; refine wp_appRow elemInt rfl _ _ rfl _ GG s2 c2 A2 _ rfl HO2.out RA rn rc _ rfl (HR1.out.grows GG) HR3.out (by intro u hu; obtain ⟨z, _, rfl⟩ := List.mem_map.1 hu; rfl) (by omega) ?_; intro A3 c3 y3 hown3; have HO3 := hide hown3; clear hown3)
          refine ⟨⟨q + 1, by omega, by go_num, y3, rfl, A3, c3, s2 + rn, rfl, ?_, ?_, ?_⟩, by simp [intOf]; omega⟩
          · rw [HN.out]; show s2 + rn = _; rw [List.length_append, HS2.out, HXl.out]
          · rw [HNs.out]; show s2 + rn = _; rw [HS3.out]
          · rw [HN.out, List.map_append]; exact HO3.out
    · obtain ⟨b, off, rfl, hc⟩ := HB.out.rows (by omega)
      have c1 := Holds.mk (hc k (by omega))
      have hs := HSz.out k (by omega)
      have hn := (HR.out k (by omega)).2.1
      have HN : Hid (szK R (k + 1) = szK R k + (gr R k).n) := rfl
      clear hc
      generalize szK R k = sk at *
      generalize (gr R k).n = nk at *
      go_wp2
      all_goals first | (exfalso; omega) | skip
      exact ⟨⟨k + 1, by omega, by go_num, by rw [HN.out]; simp, trivial⟩, by simp [intOf]; omega⟩
end Go.Proofs.YtgplpgldhoelcaaGreat

namespace Go.Proofs.YtgplpgldhoelcaaGreat
open Go Go.RowKit
section
variable {P : Program} {w0 : World}
def AtS (P : Program) (ops : Array Oper) (Q : Exit → Act → World → Prop) (tail : List Oper) (a : Act) (G : Env) (w' : World) : Prop := ∀ a', Conc G a a' w' → wpList P ops Q tail a' w'
theorem AtS.pop {ops : Array Oper} {Q : Exit → Act → World → Prop} {tail : List Oper} {a : Act} {G : Env} {w' : World} {t : Tmp} {p : Pr} (hG : G t = none) (ht : t < a.tmps.size)
    (h : ∀ v, p v w' → AtS P ops Q tail (a.put (some t) v) G w') : AtS P ops Q tail a (G.upd t p) w' := fun a' hc => by
  obtain ⟨v, hv⟩ := conc_upd hc ht
  rcases hv with ⟨hp, hc2⟩ | hne
  · exact h v hp a' hc2
  · exact absurd hG hne
theorem AtS.base {ops : Array Oper} {Q : Exit → Act → World → Prop} {tail : List Oper} {a : Act} {w' : World} (h : wpList P ops Q tail a w') : AtS P ops Q tail a Env.no w' := fun a' hc => by rw [conc_no hc]; exact h
theorem gLex_endS {ops : Array Oper} {Q : Exit → Act → World → Prop} {tail : List Oper} {a : Act} {G : Env} (h : ∀ x : Later w0, AtS P ops Q tail a G x.now) :
    gLex P ops w0 (fun a G => ∀ w', Grows w0 w' → ∀ a', Conc G a a' w' → wpList P ops Q tail a' w') [] a G := fun w' hw a' hc => h ⟨w', hw⟩ a' hc
end
end Go.Proofs.YtgplpgldhoelcaaGreat

