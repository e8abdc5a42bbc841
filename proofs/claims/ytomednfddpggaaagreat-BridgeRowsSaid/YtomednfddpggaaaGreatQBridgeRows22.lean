/- Contract: an edge is struck out of an own row of edges (slices.Delete). -/
import Derived.Test.YtomednfddpggaaaGreatQBridgeRows08
import Derived.Test.YtomednfddpggaaaGreatQBridgeRows01
import Derived.Shelf.Slices.CompactI
import Derived.Laws.IdiomCopy
import Derived.Shelf.RegionOpen
import Derived.Test.YtomednfddpggaaaGreatQBridgeRows09
import Derived.Test.YtomednfddpggaaaGreatQBridgeRows00
import Derived.Test.YtomednfddpggaaaGreatQBridgeRows02
import Derived.Test.YtomednfddpggaaaGreatQBridgeRows03
import Derived.Test.YtomednfddpggaaaGreatQBridgeRows07
/- Contract: an edge is struck out of an own row of edges (slices.Delete). -/
namespace Go.Proofs.YtomednfddpggaaaGreat
open Go Go.RowKit
def layA (cur : Array Value) : Nat → List Value → Array Value
  | _, [] => cur
  | o, v :: r => layA (cur.setIfInBounds o v) (o + 1) r
theorem layA_size (vs : List Value) : ∀ (cur : Array Value) (o : Nat), (layA cur o vs).size = cur.size := by
  induction vs with
  | nil => exact fun _ _ => rfl
  | cons v r ih => exact fun cur o => (ih _ _).trans (by simp)
theorem layA_get (vs : List Value) : ∀ (cur : Array Value) (o k : Nat), o + vs.length ≤ cur.size → (layA cur o vs)[k]? = if o ≤ k ∧ k < o + vs.length then vs[k - o]? else cur[k]? := by
  induction vs with
  | nil =>
    intro cur o k _
    rw [if_neg (by simp only [List.length_nil]; omega)]
    rfl
  | cons v r ih =>
    intro cur o k h
    simp only [List.length_cons] at h
    show (layA (cur.setIfInBounds o v) (o + 1) r)[k]? = _
    rw [ih _ _ _ (by simp; omega)]
    by_cases h1 : k = o
    · subst h1
      rw [if_neg (by omega), if_pos (by simp)]
      simp [show k < cur.size by omega]
    · by_cases h2 : o ≤ k ∧ k < o + (v :: r).length
      · rw [if_pos h2]
        simp only [List.length_cons] at h2
        rw [if_pos (by omega), show k - o = (k - (o + 1)) + 1 by omega, List.getElem?_cons_succ]
      · rw [if_neg h2]
        simp only [List.length_cons] at h2
        rw [if_neg (by omega), Array.getElem?_setIfInBounds_ne (Ne.symm h1)]
theorem setCells_at {t : TypeId} {g : Nat} (vs : List Value) : ∀ (w : World) (cur : Array Value) (o : Nat), w.heap[g]? = some (.cells cur t (0, 0)) → (w.setCells g o vs).heap[g]? = some (.cells (layA cur o vs) t (0, 0)) := by
  induction vs with
  | nil => exact fun _ _ _ h => h
  | cons v r ih =>
    intro w cur o h
    refine ih _ _ _ ?_
    simp [World.setCell, Array.getElem?_modify, h]
theorem setCells_touch {g : Nat} (vs : List Value) : ∀ (w : World) (o : Nat), Touch (fun k => k = g) w (w.setCells g o vs) := by
  induction vs with
  | nil => exact fun w _ => Touch.refl _ w
  | cons v r ih => exact fun w o => ((Touch.refl (fun k => k = g) w).set (p := ⟨g, o, none⟩) (.inl rfl) v).trans (ih _ _)
theorem run_clearE (w : World) (ty : TypeId) (b o c : Nat) (hc : ∀ j, j < 3 → (w.cell? ⟨b, o + j, none⟩).isSome = true) (hf : ∀ j, j < 3 → w.frozen? ⟨b, o + j, none⟩ = false) :
    (Builtin.clear_ #[22] ty #[.slice (some ⟨b, o, none⟩) 1 c]).run Tryz.prog w = .ok (.tuple #[]) (w.setCells b o [.int .i64 0, .int .i64 0, .int .u64 0]) := by
  have hv : ∀ w, (zeroValue 59).run Tryz.prog w = .ok (.agg #[.int .i64 0, .int .i64 0, .int .u64 0]) w := fun w => by kernel_rfl
  have hzc : (Builtin.zeroCells (Value.agg #[.int .i64 0, .int .i64 0, .int .u64 0]).cells 1).toList = [.int .i64 0, .int .i64 0, .int .u64 0] := by kernel_rfl
  have hst := run_storeCells_cells (P := Tryz.prog) b o [.int .i64 0, .int .i64 0, .int .u64 0] 0 w (by simpa using hc) (by simpa using hf) (by intro v hv'; simp at hv'; rcases hv' with rfl | rfl | rfl <;> rfl)
  simp only [Nat.add_zero] at hst
  simp [Builtin.clear_, run_underlying Tryz.underlying22, hv, hzc, hst]
theorem esCells_app (a b : List Edg) : esCells (a ++ b) = esCells a ++ esCells b := by simp [esCells, List.flatMap_append]
theorem esCells_erase (E : List Edg) (i : Nat) (hi : i < E.length) : esCells (E.eraseIdx i) = (esCells E).take (i * 3) ++ (esCells E).drop ((i + 1) * 3) := by
  have e1 : esCells E = esCells (E.take i) ++ esCells (E.drop i) := by rw [← esCells_app, List.take_append_drop]
  have e2 : esCells E = esCells (E.take (i + 1)) ++ esCells (E.drop (i + 1)) := by rw [← esCells_app, List.take_append_drop]
  have l1 : (esCells (E.take i)).length = i * 3 := by rw [esCells_length, List.length_take]; congr 1; omega
  have l2 : (esCells (E.take (i + 1))).length = (i + 1) * 3 := by rw [esCells_length, List.length_take]; congr 1; omega
  rw [List.eraseIdx_eq_take_drop_succ, esCells_app]
  congr 1
  · rw [e1, ← l1, List.take_left]
  · rw [e2, ← l2, List.drop_left]
set_option maxRecDepth 20000 in
set_option maxHeartbeats 4000000 in
theorem delE (B : Nat) (w : World) (A : Option Addr) (c : Nat) (E : List Edg) (e : Nat) (ho : Own w B 59 3 A E.length c (esCells E)) (he : e < E.length) (hn : E.length ≤ 1000000) :
    Calls Tryz.prog 127 #[.slice A E.length c, .int .i64 (e : Int), .int .i64 ((e : Int) + 1)] w fun x w' => x = .returned (.slice A (E.eraseIdx e).length c) ∧ Touch (fun k => ∃ p, A = some p ∧ p.block = k) w w' ∧ Own w' B 59 3 A (E.eraseIdx e).length c (esCells (E.eraseIdx e)) := by
  obtain ⟨i0, _, hi0, hz0, hz1, hz2⟩ : ∃ (i : TypeInfo) (z : Value), Tryz.prog.info? 59 = some i ∧ i.zero = some z ∧ i.size = 3 ∧ i.bytes = 24 := by
    have h : (Tryz.prog.info? 59).map (fun i => (i.zero, i.size, i.bytes)) = some (some (.agg #[.int .i64 0, .int .i64 0, .int .u64 0]), 3, 24) := by kernel_rfl
    obtain ⟨i, h1, h2, h3, h4⟩ := info_parts h
    exact ⟨i, _, h1, h2, h3, h4⟩
  obtain ⟨g, cur, rfl, hB, hh, hnc, hsz, htk⟩ := ho.at_ (by omega)
  have hm : c ≤ maxLen := by
    rcases ho.2 with ⟨h1, _⟩ | ⟨g2, cap, cur2, h1, _, _, _, h5, _⟩
    · cases h1
    · injection h1 with _ _ h7; subst h7; exact h5
  have hlE : (esCells E).length = E.length * 3 := esCells_length E
  have hcur : ∀ k, k < E.length * 3 → cur[k]? = (esCells E)[k]? := fun k hk => by
    rw [← htk, List.getElem?_take, if_pos hk]
    simp
  obtain ⟨news, hnews⟩ : ∃ news, news = (esCells E).drop ((e + 1) * 3) := ⟨_, rfl⟩
  have hlen : news.length = (E.length - (e + 1)) * 3 := by rw [hnews, List.length_drop, hlE, Nat.sub_mul]
  have hcell : ∀ k, w.drew.cell? ⟨g, k, none⟩ = cur[k]? := fun k => by show w.cell? _ = _; simp [World.cell?, hh]
  have hfroz : ∀ k, w.drew.frozen? ⟨g, k, none⟩ = false := fun k => by show w.frozen? _ = _; simp [World.frozen?, hh]
  obtain ⟨ad, hA, hsrc⟩ : ∃ ad : Addr, (if c = e + 1 then some (⟨g, 0, none⟩ : Addr) else some ⟨g, (e + 1) * 3, none⟩) = some ad ∧ Hid (∀ t u, news[t]? = some u → w.drew.cell? (ad.add t) = some u) := by
    by_cases h : c = e + 1
    · refine ⟨⟨g, 0, none⟩, by simp [h], fun t u hu => ?_⟩
      have h0 : news.length = 0 := by rw [hlen]; have : E.length - (e + 1) = 0 := by omega
                                      rw [this]
      rw [List.length_eq_zero_iff.1 h0] at hu
      simp at hu
    · refine ⟨⟨g, (e + 1) * 3, none⟩, by simp [h], fun t u hu => ?_⟩
      have ht : t < (E.length - (e + 1)) * 3 := by
        have := (List.getElem?_eq_some_iff.1 hu).1
        rwa [hlen] at this
      rw [hnews, List.getElem?_drop] at hu
      rw [Addr.add_lit, hcell, hcur _ (by omega)]
      exact hu
  have s1 : Hid (news.length = (E.length - (e + 1)) * 3) := hlen
  have s2 : Hid (∀ u ∈ news, u.oneCell' = true) := fun u hu => es_one E u (by rw [hnews] at hu; exact List.mem_of_mem_drop hu)
  have s3 : Hid (∀ t, t < news.length → (w.drew.cell? ⟨g, 0 + e * 3 + t, none⟩).isSome = true ∧ w.drew.frozen? ⟨g, 0 + e * 3 + t, none⟩ = false) := fun t ht => by
    rw [hlen] at ht
    refine ⟨?_, hfroz _⟩
    rw [hcell, hcur _ (by omega), List.getElem?_eq_getElem (by rw [hlE]; omega)]
    rfl
  obtain ⟨W1, hW1⟩ : ∃ W1, W1 = w.drew.setCells g (0 + e * 3) news := ⟨_, rfl⟩
  have hh1 : W1.heap[g]? = some (.cells (layA cur (e * 3) news) 59 (0, 0)) := by
    rw [hW1, Nat.zero_add]
    exact setCells_at news w.drew cur (e * 3) hh
  have hsz1 : (layA cur (e * 3) news).size = c * 3 := by rw [layA_size, hsz]
  have hcl : ∀ ty cc, (Builtin.clear_ #[22] ty #[.slice (some ⟨g, (E.length - 1) * 3, none⟩) 1 cc]).run Tryz.prog W1 = .ok (.tuple #[]) (W1.setCells g ((E.length - 1) * 3) [.int .i64 0, .int .i64 0, .int .u64 0]) := fun ty cc =>
    run_clearE W1 ty g ((E.length - 1) * 3) cc (fun j hj => by simp only [World.cell?, hh1]; rw [Array.getElem?_eq_getElem (by rw [hsz1]; omega)]; rfl) (fun j hj => by simp [World.frozen?, hh1])
  have HT := hide (show Touch (fun k => ∃ p, some (⟨g, 0, none⟩ : Addr) = some p ∧ p.block = k) w (W1.setCells g ((E.length - 1) * 3) [.int .i64 0, .int .i64 0, .int .u64 0]) from by
    rw [hW1]
    exact ((((Touch.refl (fun k => k = g) w).drew).trans (setCells_touch _ _ _)).trans (setCells_touch _ _ _)).mono (fun k hk => ⟨_, rfl, hk.symm⟩))
  have hle : (E.eraseIdx e).length = E.length - 1 := List.length_eraseIdx_of_lt he
  have HO := hide (show Own (W1.setCells g ((E.length - 1) * 3) [.int .i64 0, .int .i64 0, .int .u64 0]) B 59 3 (some ⟨g, 0, none⟩) (E.eraseIdx e).length c (esCells (E.eraseIdx e)) from by
    have hh2 := setCells_at [.int .i64 0, .int .i64 0, .int .u64 0] W1 _ ((E.length - 1) * 3) hh1
    refine ⟨esCells_length _, .inr ⟨g, c, _, rfl, hB, hh2, by omega, hm, by rw [layA_size, hsz1], ?_⟩⟩
    rw [hle, esCells_erase E e he]
    apply List.ext_getElem?
    intro k
    rw [List.getElem?_take]
    have l1 : ((esCells E).take (e * 3)).length = e * 3 := by rw [List.length_take, hlE]; omega
    by_cases hk : k < (E.length - 1) * 3
    · rw [if_pos hk, Array.getElem?_toList, layA_get _ _ _ _ (by rw [hsz1]; simp; omega), if_neg (by omega), layA_get _ _ _ _ (by rw [hsz, hlen]; omega)]
      by_cases hk2 : k < e * 3
      · rw [if_neg (by omega), List.getElem?_append_left (by rw [l1]; exact hk2), List.getElem?_take, if_pos hk2]
        exact hcur k (by omega)
      · rw [if_pos (by rw [hlen]; omega), List.getElem?_append_right (by rw [l1]; omega), l1, hnews]
    · rw [if_neg hk, List.getElem?_eq_none (by rw [List.length_append, l1, List.length_drop, hlE]; omega)])
  have HW : Hid (W1 = w.drew.setCells g (0 + e * 3) news) := hW1
  clear hh hcur hcell hfroz hh1 hsz1 hW1 ho hB hsz htk hlE hnews hlen
  have mixed : Tryz.prog.follows .mixedOrders = true := by kernel_rfl
  have hic : e ≤ c := by omega
  have hjc : e + 1 ≤ c := by omega
  have hq : e + (E.length - (e + 1)) = E.length - 1 := by omega
  have hq2 : E.length - (E.length - 1) = 1 := by omega
  have hq3 : ¬ c = E.length - 1 := by omega
  have hq4 : E.length - 1 ≤ E.length := by omega
  have hq5 : E.length - 1 ≤ c := by omega
  have h01 : 0 ≤ (e : Int) + 1 := by omega
  have h02 : (e : Int) + 1 ≤ (E.length : Int) := by omega
  go_enter Tryz.func127, Tryz.ntmps127
  go_wp2_with fail
  go_region_law_o (refine step_append_room rfl (.tmp 22) (.tmp 25) 22 rfl 59 i0 3 Tryz.underlying22 hi0 hz1 g 0 e c (by simp [Act.eval, Act.put]) ad (E.length - (e + 1)) (c - (e + 1)) news (by simp [Act.eval, Act.put]) s1.out hsrc.out s2.out (by omega) s3.out ?_; rw [← HW.out])
  go_wp2_with fail
  go_ret
  exact ⟨by rw [hle]; rfl, HT.out, HO.out⟩
end Go.Proofs.YtomednfddpggaaaGreat

/- Regions that draw their order: an operation that reads two values which hang on the world, and leaves a value that is known. -/
namespace Go.Proofs.YtomednfddpggaaaGreat
open Go Go.RowKit
section
variable {P : Program} {w0 : World} {ops : Array Oper} {Q : Act → Env → Prop} {a : Act} {G : Env} {o : Oper} {rest : List Oper}
def depB2 (ops : Array Oper) (o : Oper) (G : Env) (t1 t2 : Tmp) : Bool :=
  ((o.looksAt ops).all fun t => t == t1 || t == t2 || (G t).isNone) && (o.looksAt ops).contains t1 && (o.looksAt ops).contains t2 && (match o.dst with | some d => (G d).isNone | none => true) && (match o.op with | .select .. => false | _ => true) &&
    (match o.guard with | some (g, _) => (match (ops[g]?).bind (·.dst) with | some t => t != t1 && t != t2 | none => true) | none => true)
theorem dep_spec2 {t1 t2 : Tmp} (h : depB2 ops o G t1 t2 = true) : guardFree ops o G ∧ dstFree o G ∧ (∀ t ∈ o.looksAt ops, t = t1 ∨ t = t2 ∨ G t = none) ∧ t1 ∈ o.looksAt ops ∧ t2 ∈ o.looksAt ops ∧ ∀ cs b, o.op ≠ .select cs b := by
  unfold depB2 at h
  simp only [Bool.and_eq_true, List.all_eq_true, Bool.or_eq_true, Option.isNone_iff_eq_none, beq_iff_eq, List.contains_iff_mem] at h
  obtain ⟨⟨⟨⟨⟨h1, h2⟩, h2'⟩, h3⟩, h4⟩, h5⟩ := h
  refine ⟨fun g b t e1 e2 => ?_, fun d e => ?_, fun t ht => (by rcases h1 t ht with (e | e) | e; exact .inl e; exact .inr (.inl e); exact .inr (.inr e)), h2, h2', fun cs b e => ?_⟩
  · rcases h1 t (mem_looks_guard e1 e2) with (e | e) | e
    · rw [e1] at h5
      simp only [e2] at h5
      subst e
      simp at h5
    · rw [e1] at h5
      simp only [e2] at h5
      subst e
      simp at h5
    · exact e
  · rw [e] at h3; simpa using h3
  · rw [e] at h4; simp at h4
theorem dep_exec2 {a' : Act} {t1 t2 : Tmp} {v1 v2 : Value} (h5 : ∀ cs b, o.op ≠ .select cs b) (ht1 : t1 < a.tmps.size) (ht2 : t2 < a.tmps.size) (hne : t1 ≠ t2) (hv1 : a'.tmps[t1]? = some v1) (hv2 : a'.tmps[t2]? = some v2) (h : ∀ t ∈ o.looksAt ops, t = t1 ∨ t = t2 ∨ a'.tmps[t]? = a.tmps[t]?) :
    execOp a'.eval o = execOp ((a.put (some t1) v1).put (some t2) v2).eval o := by
  refine execOp_congr o h5 fun x hx => ?_
  cases x with
  | tmp t =>
    have ht : t ∈ o.looksAt ops := List.mem_append_left _ (List.mem_filterMap.2 ⟨.tmp t, by simpa using hx, rfl⟩)
    have h' : a'.tmps[t]? = ((a.put (some t1) v1).put (some t2) v2).tmps[t]? := by
      by_cases e2 : t = t2
      · subst e2
        rw [hv2]
        simp [Act.put, ht2]
      · by_cases e : t = t1
        · subst e
          rw [hv1]
          show some v1 = (((a.tmps.setIfInBounds t v1).setIfInBounds t2 v2))[t]?
          rw [Array.getElem?_setIfInBounds_ne (Ne.symm e2)]
          simp [ht1]
        · rw [((h t ht).resolve_left e).resolve_left e2]
          simp [Act.put, Array.getElem?_setIfInBounds_ne (Ne.symm e), Array.getElem?_setIfInBounds_ne (Ne.symm e2)]
    simp only [Act.eval, Array.getD_eq_getD_getElem?, h']
  | _ => rfl
theorem gLex_depV2 {t1 t2 : Tmp} {p1 p2 : Pr} (hw : Region.wanted o (yielded ops a.tmps) = true) (hp : depB2 ops o G t1 t2 = true) (h1 : G t1 = some p1) (h2 : G t2 = some p2) (ht1 : t1 < a.tmps.size) (ht2 : t2 < a.tmps.size) (hne : t1 ≠ t2) (v : Value)
    (hr : ∀ (x : Later w0) (u1 u2 : Value), p1 u1 x.now → p2 u2 x.now → runsTo P (fun u' w' => Grows x.now w' ∧ u' = v) ((execOp ((a.put (some t1) u1).put (some t2) u2).eval o).run P x.now))
    (h : gLex P ops w0 Q rest (a.put o.dst v) G) : gLex P ops w0 Q (o :: rest) a G := by
  obtain ⟨k1, k2, k3, k4, k4', k5⟩ := dep_spec2 hp
  refine ⟨.inl v, ⟨k1, k2, .inl ⟨hw, trivial, trivial, fun w hw a' ha' => ?_⟩⟩, ?_⟩
  · have hv1 := ha' t1 k4
    have hv2 := ha' t2 k4'
    unfold relAt at hv1 hv2
    rw [h1] at hv1
    rw [h2] at hv2
    obtain ⟨u1, hv1, hp1⟩ := hv1
    obtain ⟨u2, hv2, hp2⟩ := hv2
    rw [dep_exec2 k5 ht1 ht2 hne hv1 hv2 (fun t ht => (k3 t ht).imp id (fun e => e.imp id (fun e => by
      have h6 := ha' t ht
      unfold relAt at h6
      rw [e] at h6
      exact h6)))]
    exact hr ⟨w, hw⟩ u1 u2 hp1 hp2
  · have : putG G o.dst (.inl v) = G := by cases o.dst <;> rfl
    rw [this]
    exact h
theorem gLex_propG {t : Tmp} (hw : Region.wanted o (yielded ops a.tmps) = true) (hp : plainB ops o G = true) (hd : o.dst = some t) (hlt : t < a.tmps.size)
    (p : Pr) (hl : Lasts p) (hr : ∀ x : Later w0, runsTo P (fun u w' => Grows x.now w' ∧ p u w') ((execOp a.eval o).run P x.now))
    (h : gLex P ops w0 Q rest a (G.upd t p)) : gLex P ops w0 Q (o :: rest) a G := by
  obtain ⟨h1, h2, h3, h4⟩ := plain_spec hp
  refine ⟨.inr p, ⟨h1, h2, .inl ⟨hw, hl, ⟨t, hd, hlt⟩, fun w hw a' ha' => ?_⟩⟩, ?_⟩
  · rw [exec_same h4 h3 ha']
    exact hr ⟨w, hw⟩
  · rw [hd]
    exact h
def AtB (Q : Exit → Act → World → Prop) (a : Act) (G : Env) (w' : World) : Prop := ∀ a', Conc G a a' w' → Q .normal a' w'
theorem AtB.pop {Q : Exit → Act → World → Prop} {w' : World} {t : Tmp} {p : Pr} (hG : G t = none) (ht : t < a.tmps.size) (h : ∀ v, p v w' → AtB Q (a.put (some t) v) G w') : AtB Q a (G.upd t p) w' := fun a' hc => by
  obtain ⟨v, hv⟩ := conc_upd hc ht
  rcases hv with ⟨hp, hc2⟩ | hne
  · exact h v hp a' hc2
  · exact absurd hG hne
theorem AtB.base {Q : Exit → Act → World → Prop} {w' : World} (h : Q .normal a w') : AtB Q a Env.no w' := fun a' hc => by rw [conc_no hc]; exact h
theorem gLex_endB {Q : Exit → Act → World → Prop} (h : ∀ x : Later w0, AtB Q a G x.now) : gLex P ops w0 (fun a G => ∀ w', Grows w0 w' → ∀ a', Conc G a a' w' → Q .normal a' w') [] a G := fun w' hw a' hc => h ⟨w', hw⟩ a' hc
end
def BRow (n : Nat) (L : List Bool) : Pr := fun u w => ∃ g, u = .slice (some ⟨g, 0, none⟩) n n ∧ Arr w g 4 (L.map .bool)
theorem BRow.lasts (n : Nat) (L : List Bool) : Lasts (BRow n L) := fun _ _ _ hg ⟨g, e, h⟩ => ⟨g, e, h.grow hg⟩
end Go.Proofs.YtomednfddpggaaaGreat

/- Contract: a graph without an edge, by the program. -/
namespace Go.Proofs.YtomednfddpggaaaGreat
open Go Go.RowKit
attribute [local go_sem] Oper.semAt_some
theorem Own.blk {w : World} {B n c size : Nat} {e : TypeId} {A : Option Addr} {xs : List Value} (h : Own w B e size A n c xs) {p : Addr} (hp : A = some p) : B ≤ p.block := by
  rcases h.2 with ⟨h1, _⟩ | ⟨g, cap, cur, h1, h2, _⟩
  · cases h1; cases hp
  · cases h1; cases hp; exact h2
theorem bwEdge (N : Int) (A : Option Addr) (n c : Nat) (i : Int) (w : World) : Calls Tryz.prog 126 #[.agg #[.int .i64 N, .slice A n c], .int .i64 i] w fun e w' => e = .returned (.bool (decide (0 ≤ i ∧ i < n))) ∧ Grows w w' := by
  go_enter Tryz.func126, Tryz.ntmps126
  go_wp2
  all_goals go_ret
  all_goals exact ⟨ret_bool (bool_ext (by simp; try omega)), GG⟩
set_option maxRecDepth 40000 in
set_option maxHeartbeats 4000000 in
theorem withoutW (N : Nat) (A : Option Addr) (c : Nat) (E : List Edg) (e : Nat) (w : World) (h : Rd w A 3 E.length (esCells E)) (hr : rightF N E = 0) (he : e < E.length) :
    Calls Tryz.prog 86 #[.agg #[.int .i64 (N : Int), .slice A E.length c], .int .i64 (e : Int)] w fun x w' => ∃ A' c', x = .returned (.tuple #[.agg #[.int .i64 (N : Int), .slice A' (E.eraseIdx e).length c'], .int .i64 0]) ∧ Rd w' A' 3 (E.eraseIdx e).length (esCells (E.eraseIdx e)) ∧ Grows w w' := by
  obtain ⟨r1, r2, r3, r4, r5⟩ := right_in hr
  have C1 := hide (fun (W : World) (hg : Grows w W) => by have := gRight N A E.length c E W (h.grows hg) (by omega); rw [hr] at this; exact this)
  have C2 := hide (fun (W : World) => by have := bwEdge N A E.length c e W; rw [decide_eq_true (show 0 ≤ (e : Int) ∧ (e : Int) < E.length by omega)] at this; exact this)
  have C3 := hide (fun (W : World) (hg : Grows w W) => cloneE A E.length c E W (h.grows hg) (by omega))
  have hw1 : IntKind.i64.wrap ((e : Int) + 1) = (e : Int) + 1 := IntWalk.i64_in _ (by omega)
  clear h hr r1 r2 r4 r5
  go_enter Tryz.func86, Tryz.ntmps86
  go_upto_region 5 with (first | (go_at_call 31; refine (C1.out _ GG).mono ?_; rintro e w' ⟨rfl, hg⟩; obtain ⟨x1, rfl⟩ := hg.later; clear hg) | (go_at_call 126; refine (C2.out _).mono ?_; rintro e w' ⟨rfl, hg⟩; obtain ⟨x2, rfl⟩ := hg.later; clear hg))
  go_region_with (first
    | (go_at_call 98
       refine (C3.out _ GG).mono ?_
       rintro e w' ⟨A3, c3, rfl, ho3, hg3⟩
       obtain ⟨x3, rfl⟩ := hg3.later
       have HO3 := hide ho3
       clear ho3 hg3)
    | (go_at_call 127
       refine (delE _ _ _ _ E e HO3.out he (by omega)).mono ?_
       rintro e w' ⟨rfl, ht4, ho4⟩
       obtain ⟨x4, rfl⟩ := (ht4.later x3.grows (fun k hk => by obtain ⟨p, hp, rfl⟩ := hk; exact HO3.out.blk hp)).later
       have HO4 := hide ho4
       clear ho4 ht4))
  all_goals go_wp2
  all_goals refine bodyPost_ret (v := .tuple #[.agg #[.int .i64 (N : Int), .slice A3 (E.eraseIdx e).length c3], .int .i64 0]) (by simp (maxDischargeDepth := 6) [results, Tryz.results86, go_sem, *]) rfl ⟨A3, c3, rfl, ?_, GG⟩
  all_goals exact ((HO4.out.low (q := ⟨w.heap.size + 1, 0, none⟩) (by show w.heap.size + 1 < _; have := (x1.grows.trans x2.grows).size; simp at this ⊢; omega) _).low (by show w.heap.size + 1 < _; have := (x1.grows.trans x2.grows).size; simp at this ⊢; omega) _).rd
set_option maxHeartbeats 4000000 in
theorem withoutNo (N : Int) (A : Option Addr) (c : Nat) (E : List Edg) (e : Int) (w : World) (h : Rd w A 3 E.length (esCells E)) (hn : E.length ≤ 1000000) (hno : rightF N E ≠ 0 ∨ ¬ (0 ≤ e ∧ e < E.length)) :
    Calls Tryz.prog 86 #[.agg #[.int .i64 N, .slice A E.length c], .int .i64 e] w fun x w' => ∃ f : Int, f ≠ 0 ∧ x = .returned (.tuple #[.agg #[.int .i64 0, .slice none 0 0], .int .i64 f]) ∧ Grows w w' := by
  have C1 := hide (fun (W : World) (hg : Grows w W) => gRight N A E.length c E W (h.grows hg) hn)
  by_cases hr : rightF N E = 0
  · rw [hr] at C1
    have C2 := hide (fun (W : World) => by have := bwEdge N A E.length c e W; rw [decide_eq_false (show ¬ (0 ≤ e ∧ e < E.length) by omega)] at this; exact this)
    clear h hr hno hn
    go_enter Tryz.func86, Tryz.ntmps86
    go_wp2_with (first | (go_at_call 31; refine (C1.out _ GG).mono ?_; rintro e w' ⟨rfl, hg⟩; obtain ⟨x1, rfl⟩ := hg.later; clear hg) | (go_at_call 126; refine (C2.out _).mono ?_; rintro e w' ⟨rfl, hg⟩; obtain ⟨x2, rfl⟩ := hg.later; clear hg))
    all_goals refine bodyPost_ret (v := .tuple #[.agg #[.int .i64 0, .slice none 0 0], .int .i64 8]) (by simp (maxDischargeDepth := 6) [results, Tryz.results86, go_sem, *]) rfl ⟨8, by omega, rfl, GG⟩
  · obtain ⟨r, hr2⟩ : ∃ r, rightF N E = r := ⟨_, rfl⟩
    rw [hr2] at C1 hr
    have hb : (r != 0) = true := by simpa using hr
    clear h hr2 hno hn hr
    go_enter Tryz.func86, Tryz.ntmps86
    go_wp2_with (first | (go_at_call 31; refine (C1.out _ GG).mono ?_; rintro e w' ⟨rfl, hg⟩; obtain ⟨x1, rfl⟩ := hg.later; clear hg))
    all_goals refine bodyPost_ret (v := .tuple #[.agg #[.int .i64 0, .slice none 0 0], .int .i64 1]) (by simp (maxDischargeDepth := 6) [results, Tryz.results86, go_sem, *]) rfl ⟨1, by omega, rfl, GG⟩
end Go.Proofs.YtomednfddpggaaaGreat

/- Who comes to whom (Tarjan), as functions. -/
namespace Go.Proofs.YtomednfddpggaaaGreat
open Go Go.RowKit
structure TjS where
  (met low part : List Int)
  stk : List Nat
  now : Int
  und : List Bool
def gbo (l : List Bool) (i : Nat) : Bool := l.getD i false
def ixOf (l : List Nat) (v : Nat) : Nat := l.findIdx (· == v)
def minT (l : List Nat) : Nat → Nat
  | 0 => gn l 0
  | k + 1 => min (minT l k) (gn l k)
def minL (l : List Nat) : Nat := minT l l.length
def setAll {α : Type} (p : List α) (l : List Nat) (x : α) : List α := l.foldl (fun p u => p.set u x) p
def TjS.enter (s : TjS) (v : Nat) : TjS := { s with now := s.now + 1, met := s.met.set v (s.now + 1), low := s.low.set v (s.now + 1), stk := s.stk ++ [v], und := s.und.set v true }
def TjS.lower (s : TjS) (v : Nat) (x : Int) : TjS := { s with low := s.low.set v (min (gi s.low v) x) }
def TjS.edge (rec : Nat → TjS → TjS) (v u : Nat) (s : TjS) : TjS :=
  if gi s.met u = 0 then (rec u s).lower v (gi (rec u s).low u)
  else if gbo s.und u = true then s.lower v (gi s.met u) else s
def TjS.cut (s : TjS) (v : Nat) : TjS :=
  { s with part := setAll s.part (s.stk.drop (ixOf s.stk v)) (minL (s.stk.drop (ixOf s.stk v)) : Int), und := setAll s.und (s.stk.drop (ixOf s.stk v)) false, stk := s.stk.take (ixOf s.stk v) }
def TjS.close (s : TjS) (v : Nat) : TjS := if gi s.low v < gi s.met v then s else s.cut v
def tj (row : Nat → List Nat) : Nat → Nat → TjS → TjS
  | 0, _, s => s
  | n + 1, v, s => ((row v).foldl (fun s u => s.edge (tj row n) v u) (s.enter v)).close v
structure TjOk (N : Nat) (s : TjS) : Prop where
  m : s.met.length = N
  l : s.low.length = N
  p : s.part.length = N
  u : s.und.length = N
  stk : ∀ u ∈ s.stk, u < N ∧ gi s.met u ≠ 0
  len : (s.stk.length : Int) ≤ s.now
  now : s.now + (s.met.count 0 : Nat) = N
theorem TjOk.le {N : Nat} {s : TjS} (h : TjOk N s) : 0 ≤ s.now ∧ s.now ≤ N := by
  have h1 := h.now
  have h2 : s.met.count 0 ≤ s.met.length := List.count_le_length
  rw [h.m] at h2
  omega
structure TjX (s s' : TjS) : Prop where
  met : ∀ u, gi s.met u ≠ 0 → gi s'.met u = gi s.met u
  stk : s.stk <+: s'.stk
  cnt : s'.met.count 0 ≤ s.met.count 0
theorem TjX.refl (s : TjS) : TjX s s := ⟨fun _ _ => rfl, List.prefix_refl _, Nat.le_refl _⟩
theorem TjX.trans {a b c : TjS} (h : TjX a b) (k : TjX b c) : TjX a c :=
  ⟨fun u hu => by rw [k.met u (by rw [h.met u hu]; exact hu), h.met u hu], h.stk.trans k.stk, Nat.le_trans k.cnt h.cnt⟩
theorem gi_set2 (ys : List Int) (j k : Nat) (v : Int) (hj : j < ys.length) : gi (ys.set j v) k = if k = j then v else gi ys k := by
  unfold gi
  by_cases h : k = j
  · subst h; simp [hj]
  · rw [if_neg h]
    simp [List.getElem?_set, Ne.symm h]
theorem TjOk.enter {N : Nat} {s : TjS} (h : TjOk N s) {v : Nat} (hv : v < N) (h0 : gi s.met v = 0) : TjOk N (s.enter v) ∧ (s.enter v).met.count 0 + 1 = s.met.count 0 := by
  have hvl : v < s.met.length := by rw [h.m]; exact hv
  have e0 : s.met[v] = 0 := by simpa [gi, hvl] using h0
  have hle := h.le
  have hn : s.now + 1 ≠ 0 := by omega
  have hpos : 0 < s.met.count 0 := List.count_pos_iff.2 (by rw [← e0]; exact List.getElem_mem _)
  have hc : (s.met.set v (s.now + 1)).count 0 + 1 = s.met.count 0 := by
    rw [List.count_set hvl, e0]
    have e : (s.now + 1 == 0) = false := by simpa using hn
    simp only [e, beq_self_eq_true, if_true, Bool.false_eq_true, if_false]
    omega
  refine ⟨⟨by simp [TjS.enter, h.m], by simp [TjS.enter, h.l], h.p, by simp [TjS.enter, h.u], fun u hu => ?_, ?_, ?_⟩, hc⟩
  · show u < N ∧ gi (s.met.set v (s.now + 1)) u ≠ 0
    rw [gi_set2 _ _ _ _ hvl]
    rcases List.mem_append.1 hu with hu | hu
    · refine ⟨(h.stk u hu).1, ?_⟩
      split
      · exact hn
      · exact (h.stk u hu).2
    · rw [List.mem_singleton.1 hu, if_pos rfl]
      exact ⟨hv, hn⟩
  · have := h.len
    show ((s.stk ++ [v]).length : Int) ≤ s.now + 1
    simp only [List.length_append, List.length_singleton]
    omega
  · have := h.now
    show s.now + 1 + ((s.met.set v (s.now + 1)).count 0 : Nat) = N
    omega
theorem TjX.enter {N : Nat} {s : TjS} (h : TjOk N s) {v : Nat} (hv : v < N) (h0 : gi s.met v = 0) : TjX s (s.enter v) := by
  have hvl : v < s.met.length := by rw [h.m]; exact hv
  refine ⟨fun u hu => ?_, List.prefix_append _ _, by have := (h.enter hv h0).2; omega⟩
  show gi (s.met.set v (s.now + 1)) u = _
  rw [gi_set2 _ _ _ _ hvl, if_neg (fun e => by subst e; exact hu h0)]
theorem TjOk.lower {N : Nat} {s : TjS} (h : TjOk N s) (v : Nat) (x : Int) : TjOk N (s.lower v x) := ⟨h.m, by simp [TjS.lower, h.l], h.p, h.u, h.stk, h.len, h.now⟩
theorem TjX.lower (s : TjS) (v : Nat) (x : Int) : TjX s (s.lower v x) := ⟨fun _ _ => rfl, List.prefix_refl _, Nat.le_refl _⟩
theorem setAll_len {α : Type} (l : List Nat) (x : α) : ∀ p : List α, (setAll p l x).length = p.length := by
  induction l with
  | nil => exact fun _ => rfl
  | cons u l ih => intro p; exact (ih (p.set u x)).trans (by simp)
theorem TjOk.close {N : Nat} {s : TjS} (h : TjOk N s) (v : Nat) : TjOk N (s.close v) := by
  unfold TjS.close
  split
  · exact h
  · refine ⟨h.m, h.l, by show (setAll _ _ _).length = N; rw [setAll_len]; exact h.p, by show (setAll _ _ _).length = N; rw [setAll_len]; exact h.u, fun u hu => h.stk u (List.mem_of_mem_take hu), ?_, h.now⟩
    have := h.len
    show ((s.stk.take (ixOf s.stk v)).length : Int) ≤ s.now
    rw [List.length_take]
    omega
theorem ixOf_lt {l : List Nat} {v : Nat} (h : v ∈ l) : ixOf l v < l.length := List.findIdx_lt_length_of_exists ⟨v, h, by simp⟩
theorem ixOf_at {l : List Nat} {v : Nat} (h : v ∈ l) : l[ixOf l v]'(ixOf_lt h) = v := by
  have := List.findIdx_getElem (xs := l) (p := (· == v)) (w := ixOf_lt h)
  exact LawfulBEq.eq_of_beq this
theorem ixOf_pre {l : List Nat} {v j : Nat} (hj : j < ixOf l v) : gn l j ≠ v := by
  intro e
  have hlt : j < l.length := Nat.lt_of_lt_of_le hj List.findIdx_le_length
  have := List.not_of_lt_findIdx (p := (· == v)) hj
  have e2 : l[j] = v := by simpa [gn, hlt] using e
  simp [e2] at this
theorem TjX.close {s0 s : TjS} (v : Nat) (hx : TjX s0 s) (hv : v ∉ s0.stk) (hin : v ∈ s.stk) : TjX s0 (s.close v) := by
  unfold TjS.close
  split
  · exact hx
  · refine ⟨hx.met, ?_, hx.cnt⟩
    show s0.stk <+: s.stk.take (ixOf s.stk v)
    refine List.prefix_take_iff.2 ⟨hx.stk, ?_⟩
    rcases Nat.lt_or_ge (ixOf s.stk v) s0.stk.length with hlt | hge
    · exfalso
      have e1 := ixOf_at hin
      have e2 := hx.stk.getElem hlt
      exact hv (by rw [← e1, ← e2]; exact List.getElem_mem _)
    · exact hge
theorem fold_ok {N : Nat} {rec : Nat → TjS → TjS} {v n : Nat} (hr : ∀ u s, TjOk N s → u < N → gi s.met u = 0 → s.met.count 0 ≤ n → TjOk N (rec u s) ∧ TjX s (rec u s)) :
    ∀ (l : List Nat) (s : TjS), (∀ u ∈ l, u < N) → TjOk N s → s.met.count 0 ≤ n → TjOk N (l.foldl (fun s u => s.edge rec v u) s) ∧ TjX s (l.foldl (fun s u => s.edge rec v u) s)
  | [], s, _, h, _ => ⟨h, TjX.refl s⟩
  | u :: l, s, hl, h, hc => by
    have h1 : TjOk N (s.edge rec v u) ∧ TjX s (s.edge rec v u) := by
      unfold TjS.edge
      split
      · rename_i h0
        obtain ⟨a, b⟩ := hr u s h (hl u (by simp)) h0 hc
        exact ⟨a.lower _ _, b.trans (TjX.lower _ _ _)⟩
      · split
        · exact ⟨h.lower _ _, TjX.lower _ _ _⟩
        · exact ⟨h, TjX.refl s⟩
    obtain ⟨a, b⟩ := fold_ok hr l (s.edge rec v u) (fun x hx => hl x (by simp [hx])) h1.1 (Nat.le_trans h1.2.cnt hc)
    exact ⟨a, h1.2.trans b⟩
theorem tj_ok {N : Nat} {row : Nat → List Nat} (hrow : ∀ v, ∀ u ∈ row v, u < N) : ∀ n v s, TjOk N s → v < N → gi s.met v = 0 → s.met.count 0 ≤ n → TjOk N (tj row n v s) ∧ TjX s (tj row n v s)
  | 0, v, s, h, hv, h0, hc => by
    exfalso
    have hvl : v < s.met.length := by rw [h.m]; exact hv
    have e0 : s.met[v] = 0 := by simpa [gi, hvl] using h0
    have hpos : 0 < s.met.count 0 := List.count_pos_iff.2 (by rw [← e0]; exact List.getElem_mem _)
    omega
  | n + 1, v, s, h, hv, h0, hc => by
    obtain ⟨h1, h2⟩ := h.enter hv h0
    obtain ⟨a, b⟩ := fold_ok (v := v) (fun u s h hu h0 hc => tj_ok hrow n u s h hu h0 hc) (row v) (s.enter v) (hrow v) h1 (by omega)
    have hx := (TjX.enter h hv h0).trans b
    exact ⟨a.close v, hx.close v (fun e => (h.stk v e).2 h0) (b.stk.subset (by simp [TjS.enter]))⟩
end Go.Proofs.YtomednfddpggaaaGreat

/- Who is come to: round by round, till nothing changes. -/
namespace Go.Proofs.YtomednfddpggaaaGreat
open Go Go.RowKit
def oN (E : List Edg) (back : Bool) : Nat → Nat := if back then fN E else tN E
inductive Rch (E : List Edg) (back : Bool) (s : Nat) : Nat → Prop
  | here : Rch E back s s
  | step {v i : Nat} : Rch E back s v → i < E.length → nN E back i = v → Rch E back s (oN E back i)
def bb (l : List Bool) (i : Nat) : Bool := l.getD i false
theorem bb_set (l : List Bool) (i j : Nat) (b : Bool) (hi : i < l.length) : bb (l.set i b) j = if j = i then b else bb l j := by
  unfold bb
  by_cases h : j = i
  · subst h; simp [hi]
  · simp [h, Ne.symm h]
theorem bb_rep (n i : Nat) : bb (List.replicate n false) i = false := by
  unfold bb
  by_cases h : i < n
  · simp [h]
  · simp [h]
theorem bb_ge {l : List Bool} {i : Nat} (h : l.length ≤ i) : bb l i = false := by unfold bb; simp [h]
theorem bb_ext {a b : List Bool} (hl : a.length = b.length) (h : ∀ i, i < a.length → (bb a i = true ↔ bb b i = true)) : a = b := by
  refine List.ext_getElem hl fun i h1 h2 => ?_
  have e1 : bb a i = a[i] := by simp [bb, h1]
  have e2 : bb b i = b[i] := by simp [bb, h2]
  rw [← e1, ← e2]
  exact Bool.eq_iff_iff.2 (h i h1)
theorem cnt_mono : ∀ (a b : List Bool), a.length = b.length → (∀ i, bb a i = true → bb b i = true) → a.count true ≤ b.count true ∧ ((∃ i, bb a i = false ∧ bb b i = true) → a.count true < b.count true) := by
  intro a
  induction a with
  | nil =>
    intro b hl h
    have : b = [] := List.eq_nil_of_length_eq_zero (by simpa using hl.symm)
    subst this
    exact ⟨Nat.le_refl _, fun ⟨i, _, h2⟩ => by simp [bb] at h2⟩
  | cons x a ih =>
    intro b hl h
    cases b with
    | nil => simp at hl
    | cons y b =>
      obtain ⟨h1, h2⟩ := ih b (by simpa using hl) (fun i hi => by have := h (i + 1); simp only [bb, List.getD_cons_succ] at this ⊢; exact this hi)
      have h0 := h 0
      simp only [bb, List.getD_cons_zero] at h0
      have key : (x :: a).count true ≤ (y :: b).count true := by
        rw [List.count_cons, List.count_cons]
        cases x <;> cases y <;> simp at h0 ⊢ <;> omega
      refine ⟨key, fun ⟨i, h3, h4⟩ => ?_⟩
      cases i with
      | zero =>
        simp only [bb, List.getD_cons_zero] at h3 h4
        subst h3 h4
        rw [List.count_cons, List.count_cons]
        simp
        omega
      | succ i =>
        simp only [bb, List.getD_cons_succ] at h3 h4
        have := h2 ⟨i, h3, h4⟩
        rw [List.count_cons, List.count_cons]
        cases x <;> cases y <;> simp at h0 ⊢ <;> omega
def rlB (E : List Edg) (back : Bool) (d : List Bool) (i : Nat) : List Bool := if bb d (nN E back i) = true then d.set (oN E back i) true else d
def rlKB (E : List Edg) (back : Bool) (d : List Bool) (k : Nat) : List Bool := (List.range k).foldl (rlB E back) d
def rnB (E : List Edg) (back : Bool) (d : List Bool) : List Bool := rlKB E back d E.length
def rnKB (E : List Edg) (back : Bool) (d : List Bool) : Nat → List Bool
  | 0 => d
  | k + 1 => rnB E back (rnKB E back d k)
section
variable {E : List Edg} {back : Bool} {N s : Nat}
theorem rlKB_succ (d : List Bool) (k : Nat) : rlKB E back d (k + 1) = rlB E back (rlKB E back d k) k := by simp [rlKB, List.range_succ, List.foldl_append]
theorem rlB_len (d : List Bool) (i : Nat) : (rlB E back d i).length = d.length := by unfold rlB; split <;> simp
theorem rlKB_len (d : List Bool) (k : Nat) : (rlKB E back d k).length = d.length := by
  induction k with
  | zero => rfl
  | succ k ih => rw [rlKB_succ, rlB_len, ih]
theorem rnKB_len (d : List Bool) (k : Nat) : (rnKB E back d k).length = d.length := by
  induction k with
  | zero => rfl
  | succ k ih => exact (rlKB_len _ _).trans ih
theorem oN_lt (h : InN N E) {i : Nat} (hi : i < E.length) : oN E back i < N := by
  unfold oN
  split
  · exact (h.f i hi).1
  · exact (h.t i hi).1
theorem nN_lt2 (h : InN N E) {i : Nat} (hi : i < E.length) : nN E back i < N := by
  unfold nN
  split
  · exact (h.t i hi).1
  · exact (h.f i hi).1
theorem rlB_mono (d : List Bool) (i v : Nat) (h : bb d v = true) : bb (rlB E back d i) v = true := by
  unfold rlB
  split
  · by_cases ho : oN E back i < d.length
    · rw [bb_set _ _ _ _ ho]; split
      · rfl
      · exact h
    · rw [List.set_eq_of_length_le (by omega)]; exact h
  · exact h
theorem rlKB_mono (d : List Bool) (v j k : Nat) (hjk : j ≤ k) (h : bb (rlKB E back d j) v = true) : bb (rlKB E back d k) v = true := by
  induction k with
  | zero => have : j = 0 := by omega
            subst this; exact h
  | succ k ih =>
    by_cases e : j = k + 1
    · rw [← e]; exact h
    · rw [rlKB_succ]; exact rlB_mono _ _ _ (ih (by omega))
theorem rnB_mono (d : List Bool) (v : Nat) (h : bb d v = true) : bb (rnB E back d) v = true := rlKB_mono d v 0 _ (Nat.zero_le _) h
theorem rnB_edge (d : List Bool) (i : Nat) (hi : i < E.length) (ho : oN E back i < d.length) (h : bb d (nN E back i) = true) : bb (rnB E back d) (oN E back i) = true := by
  refine rlKB_mono d _ (i + 1) _ (by omega) ?_
  rw [rlKB_succ]
  have h1 : bb (rlKB E back d i) (nN E back i) = true := rlKB_mono d _ 0 i (Nat.zero_le _) h
  unfold rlB
  rw [if_pos h1, bb_set _ _ _ _ (by rw [rlKB_len]; exact ho), if_pos rfl]
def ClosedB (E : List Edg) (back : Bool) (d : List Bool) : Prop := ∀ i, i < E.length → bb d (nN E back i) = true → bb d (oN E back i) = true
theorem rlB_closed {d : List Bool} (h : ClosedB E back d) {i : Nat} (hi : i < E.length) (ho : oN E back i < d.length) : rlB E back d i = d := by
  unfold rlB
  split
  · rename_i h1
    have h2 := h i hi h1
    refine bb_ext (by simp) fun j hj => ?_
    rw [bb_set _ _ _ _ ho]
    split
    · rename_i e; rw [e, h2]
    · exact Iff.rfl
  · rfl
theorem rnB_closed {d : List Bool} (h : ClosedB E back d) (hE : InN d.length E) : rnB E back d = d := by
  have : ∀ k, k ≤ E.length → rlKB E back d k = d := fun k => by
    induction k with
    | zero => intro _; rfl
    | succ k ih =>
      intro hk
      rw [rlKB_succ, ih (by omega)]
      exact rlB_closed h (by omega) (oN_lt hE (by omega))
  exact this _ (Nat.le_refl _)
theorem rnKB_closed {d : List Bool} (hE : InN d.length E) (h1 : 1 ≤ d.count true) : ∀ k, ClosedB E back (rnKB E back d k) ∨ k + 1 ≤ (rnKB E back d k).count true := by
  intro k
  induction k with
  | zero => exact .inr h1
  | succ k ih =>
    have hl : (rnKB E back d k).length = d.length := rnKB_len d k
    by_cases hc : ClosedB E back (rnKB E back d k)
    · left
      show ClosedB E back (rnB E back (rnKB E back d k))
      rw [rnB_closed hc (by rw [hl]; exact hE)]
      exact hc
    · right
      have h2 : k + 1 ≤ (rnKB E back d k).count true := ih.resolve_left hc
      unfold ClosedB at hc
      have ⟨i, hi⟩ := Classical.not_forall.1 hc
      have ⟨h3, h4⟩ := Classical.not_imp.1 hi
      have ⟨h5, h6⟩ := Classical.not_imp.1 h4
      have h7 : bb (rnKB E back d k) (oN E back i) = false := by simpa using h6
      have := (cnt_mono (rnKB E back d k) (rnB E back (rnKB E back d k)) (rlKB_len _ _).symm (fun v hv => rnB_mono _ v hv)).2 ⟨oN E back i, h7, rnB_edge _ i h3 (by rw [hl]; exact oN_lt hE h3) h5⟩
      show k + 1 + 1 ≤ (rnB E back (rnKB E back d k)).count true
      omega
def SoundB (E : List Edg) (back : Bool) (s : Nat) (d : List Bool) : Prop := ∀ v, bb d v = true → Rch E back s v
theorem rlB_sound {d : List Bool} (h : SoundB E back s d) {i : Nat} (hi : i < E.length) : SoundB E back s (rlB E back d i) := by
  intro v hv
  unfold rlB at hv
  split at hv
  · rename_i h1
    by_cases ho : oN E back i < d.length
    · rw [bb_set _ _ _ _ ho] at hv
      split at hv
      · rename_i e
        subst e
        exact .step (h _ h1) hi rfl
      · exact h v hv
    · rw [List.set_eq_of_length_le (by omega)] at hv; exact h v hv
  · exact h v hv
theorem rnKB_sound {d : List Bool} (h : SoundB E back s d) (k : Nat) : SoundB E back s (rnKB E back d k) := by
  induction k with
  | zero => exact h
  | succ k ih =>
    have : ∀ j, j ≤ E.length → SoundB E back s (rlKB E back (rnKB E back d k) j) := fun j => by
      induction j with
      | zero => intro _; exact ih
      | succ j ih2 => intro hj; rw [rlKB_succ]; exact rlB_sound (ih2 (by omega)) (by omega)
    exact this _ (Nat.le_refl _)
theorem closed_is {d : List Bool} (h1 : bb d s = true) (h2 : ClosedB E back d) (h3 : SoundB E back s d) (v : Nat) : bb d v = true ↔ Rch E back s v := by
  refine ⟨h3 v, fun h => ?_⟩
  induction h with
  | here => exact h1
  | step _ hi hn ih => exact h2 _ hi (by rw [hn]; exact ih)
def begB (N s : Nat) : List Bool := (List.replicate N false).set s true
theorem rounds_is (hE : InN N E) (hs : s < N) (v : Nat) : bb (rnKB E back (begB N s) N) v = true ↔ Rch E back s v := by
  have hl : (begB N s).length = N := by simp [begB]
  have h0 : bb (begB N s) s = true := by unfold begB; rw [bb_set _ _ _ _ (by simpa using hs), if_pos rfl]
  have hsnd : SoundB E back s (begB N s) := fun v hv => by
    unfold begB at hv
    rw [bb_set _ _ _ _ (by simpa using hs)] at hv
    split at hv
    · rename_i e; rw [e]; exact .here
    · rw [bb_rep] at hv; cases hv
  have hc1 : 1 ≤ (begB N s).count true := by
    unfold begB
    refine List.count_pos_iff.2 ?_
    exact List.mem_iff_getElem.2 ⟨s, by simpa using hs, by simp⟩
  have hmono : ∀ k, bb (rnKB E back (begB N s) k) s = true := fun k => by
    induction k with
    | zero => exact h0
    | succ k ih => exact rnB_mono _ _ ih
  refine closed_is (hmono N) ?_ (rnKB_sound hsnd N) v
  rcases rnKB_closed (back := back) (d := begB N s) (by rw [hl]; exact hE) hc1 N with h | h
  · exact h
  · have := List.count_le_length (a := true) (l := rnKB E back (begB N s) N)
    rw [rnKB_len, hl] at this
    omega
end
end Go.Proofs.YtomednfddpggaaaGreat

/- Which edges many need: the walk, as functions. -/
namespace Go.Proofs.YtomednfddpggaaaGreat
open Go Go.RowKit
structure BwS where
  (met low : List Int)
  now : Int
  cuts : List Nat
def BwS.enter (s : BwS) (v : Nat) : BwS := { s with now := s.now + 1, met := s.met.set v (s.now + 1), low := s.low.set v (s.now + 1) }
def BwS.lower (s : BwS) (v : Nat) (x : Int) : BwS := { s with low := s.low.set v (min (gi s.low v) x) }
def BwS.back (s : BwS) (v i u : Nat) : BwS := if gi s.met v < gi s.low u then { s with cuts := s.cuts ++ [i] } else s
def BwS.edge (rec : Nat → Int → BwS → BwS) (v : Nat) (by_ : Int) (i u : Nat) (s : BwS) : BwS :=
  if (i : Int) = by_ then s else if 0 < gi s.met u then s.lower v (gi s.met u) else ((rec u i s).lower v (gi (rec u i s).low u)).back v i u
def brP (E : List Edg) (rec : Nat → Int → BwS → BwS) (v : Nat) (by_ : Int) (back : Bool) (p : List Nat) (s : BwS) : BwS := p.foldl (fun s i => s.edge rec v by_ i (oN E back i)) s
def br (E : List Edg) : Nat → Nat → Int → BwS → BwS
  | 0, _, _, s => s
  | n + 1, v, by_, s => brP E (br E n) v by_ true (rowN (nN E true) E.length v) (brP E (br E n) v by_ false (rowN (nN E false) E.length v) (s.enter v))
theorem brP_snoc (E : List Edg) (rec : Nat → Int → BwS → BwS) (v : Nat) (by_ : Int) (back : Bool) (p : List Nat) (i : Nat) (s : BwS) : brP E rec v by_ back (p ++ [i]) s = (brP E rec v by_ back p s).edge rec v by_ i (oN E back i) := by simp [brP]
structure BwOk (N : Nat) (s : BwS) : Prop where
  m : s.met.length = N
  l : s.low.length = N
  pos : ∀ u, 0 ≤ gi s.met u
  cl : (s.cuts.length : Int) ≤ s.now
  now : s.now + (s.met.count 0 : Nat) = N
theorem BwOk.le {N : Nat} {s : BwS} (h : BwOk N s) : 0 ≤ s.now ∧ s.now ≤ N := by
  have h1 := h.now
  have h2 : s.met.count 0 ≤ s.met.length := List.count_le_length
  have h3 := h.cl
  omega
structure BwX (d : Int) (s s' : BwS) : Prop where
  cnt : s'.met.count 0 ≤ s.met.count 0
  gr : (s'.cuts.length : Int) + s.now + d ≤ s.cuts.length + s'.now
theorem BwX.refl (s : BwS) : BwX 0 s s := ⟨Nat.le_refl _, by omega⟩
theorem BwX.trans {d e : Int} {a b c : BwS} (h : BwX d a b) (k : BwX e b c) : BwX (d + e) a c := ⟨Nat.le_trans k.cnt h.cnt, by have := h.gr; have := k.gr; omega⟩
theorem BwX.weak {d e : Int} {a b : BwS} (h : BwX d a b) (he : e ≤ d) : BwX e a b := ⟨h.cnt, by have := h.gr; omega⟩
theorem BwOk.enter {N : Nat} {s : BwS} (h : BwOk N s) {v : Nat} (hv : v < N) (h0 : gi s.met v = 0) : BwOk N (s.enter v) ∧ (s.enter v).met.count 0 + 1 = s.met.count 0 := by
  have hvl : v < s.met.length := by rw [h.m]; exact hv
  have e0 : s.met[v] = 0 := by simpa [gi, hvl] using h0
  have hle := h.le
  have hn : s.now + 1 ≠ 0 := by omega
  have hpos : 0 < s.met.count 0 := List.count_pos_iff.2 (by rw [← e0]; exact List.getElem_mem _)
  have hc : (s.met.set v (s.now + 1)).count 0 + 1 = s.met.count 0 := by
    rw [List.count_set hvl, e0]
    have e : (s.now + 1 == 0) = false := by simpa using hn
    simp only [e, beq_self_eq_true, if_true, Bool.false_eq_true, if_false]
    omega
  refine ⟨⟨by simp [BwS.enter, h.m], by simp [BwS.enter, h.l], fun u => ?_, ?_, ?_⟩, hc⟩
  · show 0 ≤ gi (s.met.set v (s.now + 1)) u
    rw [gi_set2 _ _ _ _ hvl]
    split
    · omega
    · exact h.pos u
  · have := h.cl
    show (s.cuts.length : Int) ≤ s.now + 1
    omega
  · have := h.now
    show s.now + 1 + ((s.met.set v (s.now + 1)).count 0 : Nat) = N
    omega
theorem BwX.enter {N : Nat} {s : BwS} (h : BwOk N s) {v : Nat} (hv : v < N) (h0 : gi s.met v = 0) : BwX 1 s (s.enter v) :=
  ⟨by have := (h.enter hv h0).2; omega, by show (s.cuts.length : Int) + s.now + 1 ≤ s.cuts.length + (s.now + 1); omega⟩
theorem BwOk.lower {N : Nat} {s : BwS} (h : BwOk N s) (v : Nat) (x : Int) : BwOk N (s.lower v x) := ⟨h.m, by simp [BwS.lower, h.l], h.pos, h.cl, h.now⟩
theorem BwX.lower {d : Int} {s s' : BwS} (h : BwX d s s') (v : Nat) (x : Int) : BwX d s (s'.lower v x) := ⟨h.cnt, h.gr⟩
theorem br_back {N : Nat} {s s' : BwS} (h0 : BwOk N s) (h : BwOk N s') (hx : BwX 1 s s') (v i u : Nat) : BwOk N (s'.back v i u) ∧ BwX 0 s (s'.back v i u) := by
  unfold BwS.back
  have h1 := hx.gr
  have h2 := h0.cl
  split
  · refine ⟨⟨h.m, h.l, h.pos, ?_, h.now⟩, ⟨hx.cnt, ?_⟩⟩
    · simp only [List.length_append, List.length_singleton]; omega
    · simp only [List.length_append, List.length_singleton]; omega
  · exact ⟨h, hx.weak (by omega)⟩
def RecOk (N n : Nat) (rec : Nat → Int → BwS → BwS) : Prop := ∀ u by_ s, BwOk N s → u < N → gi s.met u = 0 → s.met.count 0 ≤ n → BwOk N (rec u by_ s) ∧ BwX 1 s (rec u by_ s)
theorem edge_ok {N n : Nat} {rec : Nat → Int → BwS → BwS} (hr : RecOk N n rec) {s : BwS} (h : BwOk N s) (hc : s.met.count 0 ≤ n) {v i u : Nat} (by_ : Int) (hu : u < N) : BwOk N (s.edge rec v by_ i u) ∧ BwX 0 s (s.edge rec v by_ i u) := by
  unfold BwS.edge
  split
  · exact ⟨h, BwX.refl s⟩
  · split
    · exact ⟨h.lower _ _, (BwX.refl s).lower _ _⟩
    · rename_i h1
      have h0 : gi s.met u = 0 := by have := h.pos u; omega
      obtain ⟨a, b⟩ := hr u i s h hu h0 hc
      exact br_back h (a.lower _ _) (b.lower _ _) v i u
theorem brP_ok {N n : Nat} {E : List Edg} {rec : Nat → Int → BwS → BwS} (hE : InN N E) (hr : RecOk N n rec) (v : Nat) (by_ : Int) (back : Bool) : ∀ (p : List Nat) (s : BwS), (∀ i ∈ p, i < E.length) → BwOk N s → s.met.count 0 ≤ n → BwOk N (brP E rec v by_ back p s) ∧ BwX 0 s (brP E rec v by_ back p s)
  | [], s, _, h, _ => ⟨h, BwX.refl s⟩
  | i :: p, s, hp, h, hc => by
    have h1 := edge_ok hr h hc (v := v) (i := i) by_ (oN_lt (back := back) hE (hp i (by simp)))
    have h2 := brP_ok hE hr v by_ back p _ (fun j hj => hp j (by simp [hj])) h1.1 (Nat.le_trans h1.2.cnt hc)
    exact ⟨h2.1, h1.2.trans h2.2⟩
theorem br_ok {N : Nat} {E : List Edg} (hE : InN N E) : ∀ n, RecOk N n (br E n)
  | 0 => fun u by_ s h hu h0 hc => by
    exfalso
    have hul : u < s.met.length := by rw [h.m]; exact hu
    have e0 : s.met[u] = 0 := by simpa [gi, hul] using h0
    have hpos : 0 < s.met.count 0 := List.count_pos_iff.2 (by rw [← e0]; exact List.getElem_mem _)
    omega
  | n + 1 => fun u by_ s h hu h0 hc => by
    have ih := br_ok hE n
    obtain ⟨h1, h2⟩ := h.enter hu h0
    have hrow : ∀ back, ∀ i ∈ rowN (nN E back) E.length u, i < E.length := fun back i hi => by simp [rowN] at hi; exact hi.1
    have a := brP_ok hE ih u by_ false _ (s.enter u) (hrow false) h1 (by omega)
    have b := brP_ok hE ih u by_ true _ _ (hrow true) a.1 (by have := a.2.cnt; omega)
    exact ⟨b.1, ((BwX.enter h hu h0).trans a.2).trans b.2⟩
end Go.Proofs.YtomednfddpggaaaGreat
