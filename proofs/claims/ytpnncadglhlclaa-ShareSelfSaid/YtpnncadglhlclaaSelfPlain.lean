/- Plain: a row whose nodes are unlike shares with itself all that it weighs, leaves itself nowhere; its stretches with another row weigh what both share. -/
import Derived.Test.YtpnncadglhlclaaUnPlain
import Derived.Test.YtpnncadglhlclaaLeaves
import Derived.Test.YtpnncadglhlclaaWithB
import Derived.Test.YtpnncadglhlclaaNodes
import Derived.Test.YtpnncadglhlclaaStPlain
namespace Go.Proofs.Ytpnncadglhlclaa
open Go Go.RowKit
theorem gi_take {l : List Int} {k j : Nat} (h : j < k) : gi (l.take k) j = gi l j := by
  unfold gi
  simp [List.getD_eq_getElem?_getD, h]
/-- Of a row whose nodes are unlike, the edges are. -/
theorem edges_unlike {E : List Edg} {s : Int} {l : List Int} (h : ∀ i, i < l.length + 1 → gi (ndL E s l (l.length + 1)) i ∉ (ndL E s l (l.length + 1)).take i) : ∀ k, k < l.length → gi l k ∉ l.take k := by
  intro k hk hm
  obtain ⟨j, hj, he⟩ := mem_gi hm
  have hjk : j < k := by simp at hj; omega
  rw [gi_take hjk] at he
  have h1 := h (k + 1) (by omega)
  rw [ndL_at _ _ _ _ _ (by omega)] at h1
  refine h1 ?_
  have h2 : gi ((ndL E s l (l.length + 1)).take (k + 1)) (j + 1) = ndI E s l (k + 1) := by
    rw [gi_take (by omega), ndL_at _ _ _ _ _ (by omega)]
    show (ge E (gi l j).toNat).t = (ge E (gi l k).toNat).t
    rw [he]
  rw [← h2]
  exact gi_mem (by rw [List.length_take, ndL_len]; omega)
theorem nodup_of {l : List Int} (h : ∀ k, k < l.length → gi l k ∉ l.take k) : l.Nodup := by
  have key : ∀ k, k ≤ l.length → (l.take k).Nodup := by
    intro k
    induction k with
    | zero => intro _; simp
    | succ k ih =>
      intro hk
      have e : l.take (k + 1) = l.take k ++ [gi l k] := by rw [List.take_succ_eq_append_getElem (by omega)]; simp [gi, show k < l.length by omega]
      rw [e, List.nodup_append]
      refine ⟨ih (by omega), by simp, fun a ha b hb => ?_⟩
      simp at hb
      rw [hb]
      exact fun e => h k (by omega) (e ▸ ha)
  have := key l.length (Nat.le_refl _)
  rwa [List.take_length] at this
/-- The sum of what is so weighed. -/
theorem fs_sum {E : List Edg} {q : Int → Bool} {l : List Int} (h : ∀ k, k < l.length → gi l k ∉ l.take k) : ∀ k, k ≤ l.length → fsK (eW E) q l k = sumTo (fun j => if q (gi l j) then (ge E (gi l j).toNat).w else 0) k
  | 0, _ => rfl
  | k + 1, hk => by
    show fsK (eW E) q l k + _ = sumTo _ k + _
    rw [fs_sum h k (by omega), decide_eq_false (h k (by omega))]
    simp only [Bool.not_false, Bool.and_true]
    rfl
theorem wt_sum (E : List Edg) (l : List Int) : ∀ k, wtK E l k = sumTo (fun j => (ge E (gi l j).toNat).w) k
  | 0 => rfl
  | k + 1 => by show wtK E l k + _ = sumTo _ k + _; rw [wt_sum E l k]
theorem self_shared {N : Int} {E : List Edg} {l : List Int} (he : edgesB N E l = true) (h : ∀ k, k < l.length → gi l k ∉ l.take k) (hl : l.length ≤ 60) : sharedV N E l l = wtK E l l.length := by
  unfold sharedV
  rw [he, fs_sum h _ (Nat.le_refl _), wt_sum]
  have : sumTo (fun j => if decide (gi l j ∈ l) then (ge E (gi l j).toNat).w else 0) l.length = sumTo (fun j => (ge E (gi l j).toNat).w) l.length := sumTo_congr fun j hj => by rw [decide_eq_true (gi_mem hj)]; rfl
  simp only [Bool.and_self, if_true, this]
  have hb := wtK_bd he l.length (Nat.le_refl _)
  rw [wt_sum] at hb
  rw [IntKind.wrap_u64]
  omega
theorem self_with {N : Int} {E : List Edg} {l : List Int} {r : Row} (hr : r.xs = l) (he : edgesB N E l = true) (h : ∀ k, k < l.length → gi l k ∉ l.take k) (hl : l.length ≤ 60) : withK N E l [r] 1 = wtK E l l.length := by
  show max 0 (sharedV N E l (gr [r] 0).xs) = _
  rw [show gr [r] 0 = r from rfl, hr, self_shared he h hl]
  have := wtK_bd he l.length (Nat.le_refl _)
  omega
theorem one_with {N : Int} {E : List Edg} {l o : List Int} {r : Row} (hr : r.xs = o) : withK N E l [r] 1 = sharedV N E l o := by
  show max 0 (sharedV N E l (gr [r] 0).xs) = _
  rw [show gr [r] 0 = r from rfl, hr]
  have := sharedV_u64 N E l o
  unfold U64 at this
  omega
theorem self_leaves {l : List Int} {r : Row} (hr : r.xs = l) : ∀ k, k ≤ l.length → lvK l [r] k = []
  | 0, _ => rfl
  | k + 1, hk => by
    rw [lvK_succ, self_leaves hr k (by omega)]
    have : lvB l [r] k = false := by
      unfold lvB
      simp only [List.length_singleton, List.range_one, List.any_cons, List.any_nil, Bool.or_false]
      rw [show gr [r] 0 = r from rfl, hr]
      unfold lvO
      rw [decide_eq_true (gi_mem (by omega))]
      rfl
    rw [this]; rfl
theorem self_union {N : Int} {E : List Edg} {l : List Int} {r : Row} (hr : r.xs = l) (hn : r.n = l.length) (he : edgesB N E l = true) (h : ∀ k, k < l.length → gi l k ∉ l.take k) : unionV N E (unA [r, r] 2) = wtK E l l.length := by
  have hu : (unA [r, r] 2).Perm l := by
    have e : unA [r, r] 2 = unI (unI [] l l.length) l l.length := by
      show unI (unI [] (gr [r, r] 0).xs (gr [r, r] 0).n) (gr [r, r] 1).xs (gr [r, r] 1).n = _
      rw [show gr [r, r] 0 = r from rfl, show gr [r, r] 1 = r from rfl, hr, hn]
    obtain ⟨h1, h2⟩ := unI_spec (acc := []) List.nodup_nil l l.length (Nat.le_refl _)
    obtain ⟨h3, h4⟩ := unI_spec h1 l l.length (Nat.le_refl _)
    rw [e]
    refine (List.perm_ext_iff_of_nodup h3 (nodup_of h)).2 fun y => ?_
    rw [h4, h2]
    simp [List.take_length]
  rw [union_perm N E hu]
  unfold unionV
  rw [he]; rfl
/-- What stretches weigh. -/
def svS (E : List Edg) (l : List Int) : List (Int × Int) → Int
  | [] => 0
  | p :: L => (wtK E l p.2.toNat - wtK E l p.1.toNat) + svS E l L
theorem svS_app (E : List Edg) (l : List Int) (a b : List (Int × Int)) : svS E l (a ++ b) = svS E l a + svS E l b := by
  induction a with
  | nil => simp [svS]
  | cons p a ih => simp only [List.cons_append, svS, ih]; omega
/-- Stretches, each behind the one ahead. -/
def chainB : List (Int × Int) → Int → Prop
  | [], _ => True
  | p :: L, z => z ≤ p.1 ∧ p.1 < p.2 ∧ chainB L (p.2 + 1)
theorem chain_app : ∀ (a : List (Int × Int)) (z : Int) (p : Int × Int), chainB a z → (∀ x ∈ a, x.2 < p.1) → z ≤ p.1 → p.1 < p.2 → chainB (a ++ [p]) z
  | [], _, _, _, _, h3, h4 => ⟨h3, h4, trivial⟩
  | x :: a, z, p, ⟨h1, h2, h3⟩, hx, _, h4 => ⟨h1, h2, chain_app a _ p h3 (fun y hy => hx y (List.mem_cons_of_mem _ hy)) (by have := hx x (by simp); omega) h4⟩
theorem chain_cut : ∀ (a : List (Int × Int)) (z : Int) (p : Int × Int), chainB (a ++ [p]) z → chainB a z ∧ (∀ x ∈ a, x.2 < p.1) ∧ z ≤ p.1 ∧ p.1 < p.2
  | [], _, _, ⟨h1, h2, _⟩ => ⟨trivial, fun x hx => by simp at hx, h1, h2⟩
  | x :: a, z, p, ⟨h1, h2, h3⟩ => by
    obtain ⟨k1, k2, k3, k4⟩ := chain_cut a _ p h3
    refine ⟨⟨h1, h2, k1⟩, fun y hy => ?_, by omega, k4⟩
    rcases List.mem_cons.1 hy with rfl | hy
    · omega
    · exact k2 y hy
theorem st_self (E : List Edg) (q : Int → Bool) (l : List Int) : ∀ k, svS E l (stK q l k).2 = sumTo (fun j => if q (gi l j) then (ge E (gi l j).toNat).w else 0) k ∧ chainB (stK q l k).2 0 ∧ (∀ p ∈ (stK q l k).2, p.2 ≤ (k : Int)) ∧
    (((stK q l k).1 = -1 ∧ (∀ p ∈ (stK q l k).2, p.2 < (k : Int))) ∨ ((stK q l k).1 ≠ -1 ∧ ∃ o i, (stK q l k).2 = o ++ [(i, (k : Int))]))
  | 0 => ⟨rfl, trivial, fun p hp => by simp [stK] at hp, .inl ⟨rfl, fun p hp => by simp [stK] at hp⟩⟩
  | k + 1 => by
    obtain ⟨h1, h2, h3, h4⟩ := st_self E q l k
    rw [stK_succ]
    have hw : wtK E l (k + 1) = wtK E l k + (ge E (gi l k).toNat).w := wtK_succ E l k
    have hs : sumTo (fun j => if q (gi l j) then (ge E (gi l j).toNat).w else 0) (k + 1) = sumTo (fun j => if q (gi l j) then (ge E (gi l j).toNat).w else 0) k + (if q (gi l k) then (ge E (gi l k).toNat).w else 0) := rfl
    have e1 : ((k : Int) + 1).toNat = k + 1 := by omega
    have e2 : ((k : Int)).toNat = k := by omega
    cases hq : q (gi l k) with
    | false =>
      rw [hs, hq]
      simp only [Bool.false_eq_true, if_false, Int.add_zero]
      exact ⟨h1, h2, fun p hp => by have := h3 p hp; push_cast; omega, .inl ⟨trivial, fun p hp => by have := h3 p hp; push_cast; omega⟩⟩
    | true =>
      rw [hs, hq]
      simp only [if_true]
      rcases h4 with ⟨ht, h5⟩ | ⟨ht, o, i, h5⟩
      · rw [if_pos ht]
        dsimp only
        refine ⟨?_, ?_, ?_, .inr ⟨by omega, _, _, by push_cast; rfl⟩⟩
        · rw [svS_app, h1]
          show _ + ((wtK E l ((k : Int) + 1).toNat - wtK E l ((k : Int)).toNat) + 0) = _
          rw [e1, e2, hw]
          omega
        · refine chain_app _ _ _ h2 (fun x hx => ?_) ?_ ?_
          · exact h5 x hx
          · show (0 : Int) ≤ (k : Int); omega
          · show (k : Int) < (k : Int) + 1; omega
        · intro p hp
          rcases List.mem_append.1 hp with hp | hp
          · have := h3 p hp; push_cast; omega
          · simp at hp; rw [hp]; push_cast; exact Int.le_refl _
      · rw [if_neg ht]
        dsimp only
        rw [h5, svS_app] at h1
        rw [h5] at h2 h3
        obtain ⟨k1, k2, k3, k4⟩ := chain_cut _ _ _ h2
        rw [h5, setEnd_app]
        dsimp only at k2 k3 k4
        refine ⟨?_, ?_, ?_, .inr ⟨ht, _, _, by push_cast; rfl⟩⟩
        · rw [svS_app]
          have h1' : svS E l o + ((wtK E l ((k : Int)).toNat - wtK E l i.toNat) + 0) = sumTo (fun j => if q (gi l j) then (ge E (gi l j).toNat).w else 0) k := h1
          show svS E l o + ((wtK E l ((k : Int) + 1).toNat - wtK E l i.toNat) + 0) = _
          rw [e2] at h1'
          rw [e1, hw, ← h1']
          omega
        · refine chain_app _ _ _ k1 k2 k3 ?_
          show i < (k : Int) + 1
          omega
        · intro p hp
          rcases List.mem_append.1 hp with hp | hp
          · have := h3 p (List.mem_append_left _ hp); push_cast; omega
          · simp at hp; rw [hp]; push_cast; exact Int.le_refl _
def pg (L : List (Int × Int)) (k : Nat) : Int × Int := L.getD k (0, 0)
theorem chain_at : ∀ (L : List (Int × Int)) (z : Int), chainB L z → ∀ k, k < L.length → z ≤ (pg L k).1 ∧ (pg L k).1 < (pg L k).2 ∧ (0 < k → (pg L (k - 1)).2 < (pg L k).1)
  | [], _, _, k, hk => by simp at hk
  | p :: L, z, ⟨h1, h2, h3⟩, 0, _ => ⟨h1, h2, fun h => by omega⟩
  | p :: L, z, ⟨h1, h2, h3⟩, k + 1, hk => by
    have hk' : k < L.length := by simpa using hk
    obtain ⟨a, b, c⟩ := chain_at L _ h3 k hk'
    have e : pg (p :: L) (k + 1) = pg L k := rfl
    rw [e]
    refine ⟨by omega, b, fun _ => ?_⟩
    cases k with
    | zero => show p.2 < _; omega
    | succ k => exact c (by omega)
/-- What the first j stretches weigh. -/
def svK (E : List Edg) (l : List Int) (L : List (Int × Int)) (j : Nat) : Int := svS E l (L.take j)
theorem svK_succ (E : List Edg) (l : List Int) (L : List (Int × Int)) (j : Nat) (hj : j < L.length) : svK E l L (j + 1) = svK E l L j + (wtK E l (pg L j).2.toNat - wtK E l (pg L j).1.toNat) := by
  unfold svK
  rw [List.take_succ_eq_append_getElem hj, svS_app]
  have : pg L j = L[j] := by simp [pg, hj]
  rw [this]
  show _ + (_ + 0) = _
  omega
theorem wtK_mono {N : Int} {E : List Edg} {l : List Int} (he : edgesB N E l = true) (a : Nat) : ∀ d, a + d ≤ l.length → wtK E l a ≤ wtK E l (a + d)
  | 0, _ => Int.le_refl _
  | d + 1, hd => by
    have h1 := wtK_mono he a d (by omega)
    have h2 := edges_in2 he (k := a + d) (by omega)
    have h3 := right_weight h2.1 h2.2.2
    have h4 := wtK_succ E l (a + d)
    show _ ≤ wtK E l (a + d + 1)
    omega
/-- A part of a row weighs the difference. -/
theorem wt_part (E : List Edg) (l : List Int) (a : Nat) : ∀ d, a + d ≤ l.length → wtK E ((l.drop a).take d) d = wtK E l (a + d) - wtK E l a
  | 0, _ => by show (0 : Int) = wtK E l a - wtK E l a; omega
  | d + 1, hd => by
    have ih := wt_part E l a d (by omega)
    have e1 : ∀ j, j < d + 1 → gi ((l.drop a).take (d + 1)) j = gi l (a + j) := fun j hj => by rw [gi_take hj]; unfold gi; simp [List.getD_eq_getElem?_getD, List.getElem?_drop]
    have e2 : ∀ k, k ≤ d → wtK E ((l.drop a).take (d + 1)) k = wtK E ((l.drop a).take d) k := by
      intro k
      induction k with
      | zero => intro _; rfl
      | succ k ihk =>
        intro hk
        rw [wtK_succ, wtK_succ, ihk (by omega), e1 k (by omega), gi_take (by omega)]
        unfold gi; simp [List.getD_eq_getElem?_getD, List.getElem?_drop]
    rw [wtK_succ, e2 d (Nat.le_refl _), ih, e1 d (by omega), show a + (d + 1) = a + d + 1 from rfl, wtK_succ]
    omega
theorem part_edges {N : Int} {E : List Edg} {l : List Int} (he : edgesB N E l = true) (a d : Nat) : edgesB N E ((l.drop a).take d) = true := by
  unfold edgesB at *
  simp only [Bool.and_eq_true, Bool.not_eq_true', List.any_eq_false] at *
  exact ⟨he.1, fun x hx => he.2 x (List.mem_of_mem_drop (List.mem_of_mem_take hx))⟩
theorem svS_bd {N : Int} {E : List Edg} {l : List Int} (he : edgesB N E l = true) : ∀ (L : List (Int × Int)) (z : Int), 0 ≤ z → chainB L z → (∀ p ∈ L, p.2 ≤ (l.length : Int)) → 0 ≤ svS E l L ∧ (z ≤ (l.length : Int) → svS E l L ≤ wtK E l l.length - wtK E l z.toNat) ∧ ((l.length : Int) < z → svS E l L = 0)
  | [], z, _, _, _ => ⟨Int.le_refl _, fun hz => by have := wtK_mono he z.toNat (l.length - z.toNat) (by omega); rw [show z.toNat + (l.length - z.toNat) = l.length by omega] at this; show (0 : Int) ≤ _; omega, fun _ => rfl⟩
  | p :: L, z, h0, ⟨h1, h2, h3⟩, h4 => by
    have hp := h4 p (by simp)
    obtain ⟨a, b, c⟩ := svS_bd he L _ (by omega) h3 (fun y hy => h4 y (List.mem_cons_of_mem _ hy))
    have m1 := wtK_mono he p.1.toNat (p.2.toNat - p.1.toNat) (by omega)
    have m2 := wtK_mono he z.toNat (p.1.toNat - z.toNat) (by omega)
    rw [show p.1.toNat + (p.2.toNat - p.1.toNat) = p.2.toNat by omega] at m1
    rw [show z.toNat + (p.1.toNat - z.toNat) = p.1.toNat by omega] at m2
    show 0 ≤ (wtK E l p.2.toNat - wtK E l p.1.toNat) + svS E l L ∧ (_ → (wtK E l p.2.toNat - wtK E l p.1.toNat) + svS E l L ≤ _) ∧ (_ → (wtK E l p.2.toNat - wtK E l p.1.toNat) + svS E l L = _)
    refine ⟨by omega, fun hz => ?_, fun hz => by omega⟩
    rcases Int.lt_or_le (l.length : Int) (p.2 + 1) with hh | hh
    · have e := c hh
      rw [show p.2.toNat = l.length by omega] at m1 ⊢
      omega
    · have e := b hh
      have m3 := wtK_mono he p.2.toNat 1 (by omega)
      rw [show (p.2 + 1).toNat = p.2.toNat + 1 by omega] at e
      omega
theorem self_stretch {N : Int} {E : List Edg} {l o : List Int} (he : edgesB N E l = true) (ho : edgesB N E o = true) (h : ∀ k, k < l.length → gi l k ∉ l.take k) (hl : l.length ≤ 60) :
    svS E l (stK (fun z => decide (z ∈ o)) l l.length).2 = sharedV N E l o := by
  obtain ⟨h1, h2, h3, _⟩ := st_self E (fun z => decide (z ∈ o)) l l.length
  have hb := svS_bd he _ 0 (Int.le_refl _) h2 h3
  have hw := wtK_bd he l.length (Nat.le_refl _)
  have hs := shared_same (W := eW E) (edgesB_spec he).2 (edgesB_spec ho).2
  unfold sharedV
  rw [he, ho]
  simp only [Bool.and_self, if_true]
  rw [← hs, fs_sum h _ (Nat.le_refl _), ← h1, IntKind.wrap_u64]
  have h5 := hb.2.1 (by omega)
  have h6 : wtK E l (0 : Int).toNat = 0 := rfl
  omega
theorem chain_pre : ∀ (a b : List (Int × Int)) (z : Int), chainB (a ++ b) z → chainB a z
  | [], _, _, _ => trivial
  | _ :: a, b, _, ⟨h1, h2, h3⟩ => ⟨h1, h2, chain_pre a b _ h3⟩
theorem svK_bd {N : Int} {E : List Edg} {l : List Int} (he : edgesB N E l = true) (hl : l.length ≤ 60) {L : List (Int × Int)} (h2 : chainB L 0) (h3 : ∀ p ∈ L, p.2 ≤ (l.length : Int)) (q : Nat) : 0 ≤ svK E l L q ∧ svK E l L q ≤ 257698037760 := by
  have h4 : chainB (L.take q) 0 := by
    have : L.take q ++ L.drop q = L := List.take_append_drop q L
    rw [← this] at h2
    exact chain_pre _ _ _ h2
  have hb := svS_bd he (L.take q) 0 (Int.le_refl _) h4 (fun p hp => h3 p (List.mem_of_mem_take hp))
  have hw := wtK_bd he l.length (Nat.le_refl _)
  have h0 : wtK E l (0 : Int).toNat = 0 := rfl
  have := hb.2.1 (by omega)
  refine ⟨hb.1, ?_⟩
  show svS E l (L.take q) ≤ _
  omega
end Go.Proofs.Ytpnncadglhlclaa
