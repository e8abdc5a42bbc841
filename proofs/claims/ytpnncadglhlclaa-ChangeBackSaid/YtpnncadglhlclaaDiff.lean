/- Contract: which changes make one graph of another one, by the program. -/
import Derived.Test.YtpnncadglhlclaaChPlain
import Derived.Test.YtpnncadglhlclaaEqv
namespace Go.Proofs.Ytpnncadglhlclaa
open Go Go.RowKit
theorem push3 {α : Type} (h : Array α) (a b c : α) : (((h.push a).push b).push c)[h.size + 1]? = some b := by
  rw [Array.getElem?_eq_getElem (by simp)]
  simp [Array.getElem_push]
theorem Mine.grown {w w' : World} {own : Option Nat} {p : Addr} {v : Value} (hg : w.grownBy w' own) (h : Mine w p v) (hne : own ≠ some p.block) : Mine w' p v := by
  have hlt : p.block < w.heap.size := cell_lt (by rw [h.cell]; rfl)
  have hb := hg.block p.block hlt (fun e => hne e.symm)
  refine ⟨?_, ?_⟩
  · have := h.cell
    unfold World.cell? at this ⊢
    rw [hb]; exact this
  · have := h.free
    unfold World.frozen? at this ⊢
    rw [hb]; exact this
theorem Own.block_lt {w : World} {B n c size : Nat} {e : TypeId} {A : Option Addr} {xs : List Value} (h : Own w B e size A n c xs) (k : Nat) (hk : (Value.slice A n c).ownBlock = some k) : B ≤ k ∧ k < w.heap.size := by
  rcases h.2 with ⟨h1, _⟩ | ⟨g, cap, cur, h1, h2, h3, _⟩
  · injection h1 with h1
    subst h1
    simp [Value.ownBlock] at hk
  · injection h1 with h1
    subst h1
    simp [Value.ownBlock] at hk
    subst hk
    exact ⟨h2, (Array.getElem?_eq_some_iff.1 h3).1⟩
theorem Own.apart {w : World} {B n c size : Nat} {e t : TypeId} {A : Option Addr} {xs : List Value} {q : Addr} {cs : Array Value} {r : Nat × Nat} (h : Own w B e size A n c xs) (hq : w.heap[q.block]? = some (.cells cs t r)) (hne : t ≠ e) (u : Value) : Own (w.setCell q u) B e size A n c xs := by
  refine ⟨h.1, ?_⟩
  rcases h.2 with h1 | ⟨g, cap, cur, h1, h2, h3, h4⟩
  · exact .inl h1
  · refine .inr ⟨g, cap, cur, h1, h2, ?_, h4⟩
    have hgq : q.block ≠ g := fun e' => by
      rw [e', h3] at hq
      injection hq with hq
      injection hq with _ hq
      exact hne hq.symm
    rw [← h3]
    simp [World.setCell, Array.getElem?_modify, hgq]
section
variable {w : World} {e : TypeId} {ops : Array Oper} {rest : List Oper} {o : Oper} {a : Act} {Q : Exit → Act → World → Prop}
/-- append of one element of some cells, and what it leaves as it was. -/
theorem wp_appSM {t : TypeId} {size : Nat} (E : Elem t e size) (hgd : o.guard = none) (s x : Operand) (ho : o.op = .call { callee := .builtin .append, args := #[s, x], argTypes := #[t, t] })
    (w0 : World) (hw0 : Grows w0 w) (n c : Nat) (A : Option Addr) (xs : List Value) (hs : a.eval s = .slice A n c) (hown : Own w w0.heap.size e size A n c xs) (g c' : Nat) (news : List Value) (hx : a.eval x = .slice (some ⟨g, 0, none⟩) 1 c')
    (hl : news.length = size) (hv : ∀ j u, news[j]? = some u → w.cell? ⟨g, j, none⟩ = some u) (h1 : ∀ u ∈ news, u.oneCell' = true) (hnm : n + 1 ≤ 1000000000000)
    (h : ∀ A' c'' (y : Later w0), Own y.now w0.heap.size e size A' (n + 1) c'' (xs ++ news) → w.grownBy y.now (Value.slice A n c).ownBlock → wpList Try.prog ops Q rest (a.put o.dst (.slice A' (n + 1) c'')) y.now) :
    wpList Try.prog ops Q (o :: rest) a w := by
  obtain ⟨i, z, bytes, hi, hz, hsz, hby, hzs, hb64⟩ := E.info
  refine wpList_append_own w hgd s x t ho w0.heap.size e i z size bytes E.under hi hz hsz hby hzs E.pos (.slice A n c) n xs hs hown ⟨g, 0, none⟩ 1 c' news hx (by omega) (fun j u hu => by rw [add_pl2, Nat.zero_add]; exact hv j u hu) h1 (by unfold maxLen; omega) ?_ hw0.size ?_
  · exact Nat.le_trans (Nat.mul_le_mul hnm hb64) (by omega)
  · intro v' w' hown' hgr _
    obtain ⟨A', c'', rfl⟩ := own_form hown'
    have hgw : Grows w0 w' := by
      refine ⟨hgr.os.trans hw0.os, hgr.tape.trans hw0.tape, hgr.output.trans hw0.output, Nat.le_trans hw0.size hgr.size, fun k hk => ?_⟩
      refine (hgr.block k (Nat.lt_of_lt_of_le hk hw0.size) fun e => ?_).trans (hw0.block k hk)
      have := World.ownsRow.lt hown k e.symm
      omega
    obtain ⟨y, rfl⟩ := hgw.later
    exact h A' c'' y hown' hgr
end
/-- The changes that make the second of the first, of the first k edges. -/
def difL (E F : List Edg) : Nat → List Chg
  | 0 => []
  | k + 1 => if (ge F k).w = (ge E k).w then difL E F k else difL E F k ++ [⟨k, (ge F k).w⟩]
theorem difL_len (E F : List Edg) : ∀ k, (difL E F k).length ≤ k
  | 0 => Nat.le_refl _
  | k + 1 => by
    have := difL_len E F k
    show (if _ then _ else _ : List Chg).length ≤ _
    split
    · omega
    · rw [List.length_append]; simp; omega
def enB (E F : List Edg) (k : Nat) : Bool := (ge F k).f == (ge E k).f && (ge F k).t == (ge E k).t
def difB (N : Int) (E : List Edg) (N2 : Int) (F : List Edg) : Bool := decide (rightF N E = 0 ∧ rightF N2 F = 0 ∧ N = N2 ∧ E.length = F.length ∧ ∀ j, j < E.length → enB E F j = true)
def difV (N : Int) (E : List Edg) (N2 : Int) (F : List Edg) : List Chg := if difB N E N2 F then difL E F E.length else []
/-- Changes, and whether there are such. -/
def GiveD (w : World) (L : List Chg) (b : Bool) (e : Ending) (w' : World) : Prop := ∃ A c, e = .returned (.tuple #[.slice A L.length c, .bool b]) ∧ Rd w' A 2 L.length (csCells L) ∧ Grows w w'
theorem dif_no {N : Int} {E : List Edg} {N2 : Int} {F : List Edg} (h : ¬ (rightF N E = 0 ∧ rightF N2 F = 0 ∧ N = N2 ∧ E.length = F.length ∧ ∀ j, j < E.length → enB E F j = true)) : difB N E N2 F = false ∧ difV N E N2 F = [] := by
  have h1 : difB N E N2 F = false := decide_eq_false h
  exact ⟨h1, by unfold difV; rw [h1]; rfl⟩
theorem GiveD.no {w w' : World} {N : Int} {E : List Edg} {N2 : Int} {F : List Edg} (h : difB N E N2 F = false ∧ difV N E N2 F = []) (hg : Grows w w') : GiveD w (difV N E N2 F) (difB N E N2 F) (.returned (.tuple #[.slice none 0 0, .bool false])) w' := by
  rw [h.1, h.2]
  exact ⟨none, 0, rfl, ⟨by simp [csCells], fun h => absurd h (by simp)⟩, hg⟩
set_option maxRecDepth 20000 in
set_option maxHeartbeats 8000000 in
theorem chDiff (N : Int) (A : Option Addr) (n c : Nat) (E : List Edg) (N2 : Int) (B : Option Addr) (m d : Nat) (F : List Edg) (w : World) (ha : Rd w A 3 n (esCells E)) (hn : n ≤ 1000000) (hb : Rd w B 3 m (esCells F)) (hm : m ≤ 1000000) :
    Calls Try.prog 66 #[.agg #[.int .i64 N, .slice A n c], .agg #[.int .i64 N2, .slice B m d]] w (GiveD w (difV N E N2 F) (difB N E N2 F)) := by
  have hl := ha.elen
  have hl2 := hb.elen
  have C1 := fun W (g : Grows w W) => gRight N A n c E W (ha.grows g) hn
  have C2 := fun W (g : Grows w W) => gRight N2 B m d F W (hb.grows g) hm
  by_cases hr : rightF N E = 0
  · rw [hr] at C1
    have H1 := hide C1
    by_cases hr2 : rightF N2 F = 0
    · rw [hr2] at C2
      have H2 := hide C2
      by_cases hN : N = N2
      · by_cases hnm : n = m
        · have HYes := hide (fun (h : ∀ j, j < n → enB E F j = true) => (show difB N E N2 F = true from decide_eq_true ⟨hr, hr2, hN, by omega, fun j hj => h j (by omega)⟩))
          have HNo := hide (fun (k : Nat) (hk : k < n) (h : enB E F k = false) => dif_no (N := N) (E := E) (N2 := N2) (F := F) (fun hh => by have := hh.2.2.2.2 k (by omega); rw [h] at this; cases this))
          have HA := hide ha
          have HB := hide hb
          have HL := hide hl
          clear C1 C2 hr hr2 ha hb hl hl2
          subst hN hnm
          go_enter Try.func66, Try.ntmps66
          go_wp2_with fail
          refine (H1.out _ (by repeat (first | exact Grows.refl _ | refine Grows.now ?_ _ | refine Grows.new ?_ _ | refine Grows.drewN ?_ _ | refine Grows.drew ?_ | assumption | (refine Grows.set ?_ (by first | omega | (simp; done) | (simp; omega)) _)))).mono ?_; rintro e w' ⟨rfl, hg⟩; obtain ⟨x1, rfl⟩ := hg.later; clear hg
          go_wp2_with fail
          refine (H2.out _ (by repeat (first | exact Grows.refl _ | refine Grows.now ?_ _ | refine Grows.new ?_ _ | refine Grows.drewN ?_ _ | refine Grows.drew ?_ | assumption | (refine Grows.set ?_ (by first | omega | (simp; done) | (simp; omega)) _)))).mono ?_; rintro e w' ⟨rfl, hg⟩; obtain ⟨x2, rfl⟩ := hg.later; clear hg
          go_wp2_with fail
          have b0 : Mine x2.now ⟨w.heap.size, 0, none⟩ (.int .i64 N) := inferInstance
          have b1 : Mine x2.now ⟨w.heap.size, 1, none⟩ (.slice A n c) := inferInstance
          have b2 : Mine x2.now ⟨w.heap.size + 1, 0, none⟩ (.int .i64 N) := inferInstance
          have b3 : Mine x2.now ⟨w.heap.size + 1, 1, none⟩ (.slice B n d) := inferInstance
          have hg2 : Grows w x2.now := (by repeat (first | exact Grows.refl _ | refine Grows.now ?_ _ | refine Grows.new ?_ _ | refine Grows.drewN ?_ _ | refine Grows.drew ?_ | assumption | (refine Grows.set ?_ (by first | omega | (simp; done) | (simp; omega)) _)))
          go_loopw [36, 4] (fun i u wr => ∃ k : Nat, k ≤ n ∧ i = .int .i64 (k : Int) ∧ ∃ y : Later x2.now, wr = y.now ∧ ∃ A1 c1 s1, u = .slice A1 s1 c1 ∧ Hid (s1 = (difL E F k).length) ∧ Own y.now x2.now.heap.size 149 2 A1 s1 c1 (csCells (difL E F k)) ∧ Hid (∀ j, j < k → enB E F j = true)) (fun i _ _ => n - (intOf i).toNat)
          case atStart => exact ⟨0, by omega, by go_num, ⟨_, Grows.refl _⟩, rfl, none, 0, 0, rfl, rfl, Own.nil _ _ _ _, fun j h => by omega⟩
          case round =>
            obtain ⟨k, hk, rfl, y, rfl, A1, c1, s1, rfl, HS1, hown, HJ⟩ := hrel
            have HO := hide hown
            clear hown
            by_cases hend : n ≤ k
            · have hkn : k = n := by omega
              subst hkn
              have HV := hide (HYes.out HJ.out)
              go_wp2
              go_ret2
              have hv : difV N E N F = difL E F k := by unfold difV; rw [HV.out, HL.out]; rfl
              rw [HV.out, hv]
              have hs := HS1.out
              refine ⟨A1, c1, by rw [← HS1.out]; rfl, ?_, (by repeat (first | exact Grows.refl _ | refine Grows.now ?_ _ | refine Grows.new ?_ _ | refine Grows.drewN ?_ _ | refine Grows.drew ?_ | assumption | (refine Grows.set ?_ (by first | omega | (simp; done) | (simp; omega)) _)))⟩
              rw [← HS1.out]
              exact HO.out.rd
            · have hys := y.size
              have hgw := hg2.size
              obtain ⟨b, off, rfl, hc⟩ := HA.out.edgesH (by omega)
              obtain ⟨b', off', rfl, hc'⟩ := HB.out.edgesH (by omega)
              obtain ⟨c2, c3, c4⟩ := hc k (by omega)
              obtain ⟨c5, c6, c7⟩ := hc' k (by omega)
              have c2 := Holds.mk (hg2.keeps c2.cell)
              have c3 := Holds.mk (hg2.keeps c3.cell)
              have c4 := Holds.mk (hg2.keeps c4.cell)
              have c5 := Holds.mk (hg2.keeps c5.cell)
              have c6 := Holds.mk (hg2.keeps c6.cell)
              have c7 := Holds.mk (hg2.keeps c7.cell)
              clear hc hc'
              have hs1 : s1 ≤ 1000000 := by have := HS1.out; have := difL_len E F k; omega
              have HN : Hid (difL E F (k + 1) = if (ge F k).w = (ge E k).w then difL E F k else difL E F k ++ [⟨k, (ge F k).w⟩]) := rfl
              have HE : Hid (enB E F k = ((ge F k).f == (ge E k).f && (ge F k).t == (ge E k).t)) := rfl
              have HNk := hide (fun h => HNo.out k (by omega) h)
              have HY2 := hide (fun (h : enB E F k = true) j (hj : j < k + 1) => (show enB E F j = true from by
                by_cases e : j = k
                · rw [e]; exact h
                · exact HJ.out j (by omega)))
              generalize ge E k = x at *
              generalize ge F k = x' at *
              obtain ⟨f, t, v⟩ := x
              obtain ⟨f', t', v'⟩ := x'
              dsimp only at c2 c3 c4 c5 c6 c7 HN HE
              have heq := fun W => edge_eqv f' t' v f t v W
              rw [beq_self_eq_true, Bool.and_true, ← HE.out] at heq
              generalize enB E F k = bb at *
              by_cases hv : v' = v
              · have HN2 : Hid (difL E F (k + 1) = difL E F k) := by show _ = _; rw [HN.out, if_pos hv]
                have hvd : (v' == v) = true := beq_iff_eq.2 hv
                clear hv
                cases bb with
                | true =>
                  go_wp2
                  exact ⟨⟨k + 1, by omega, by go_num, ⟨(y.now.alloc _).alloc _, (by repeat (first | exact Grows.refl _ | refine Grows.now ?_ _ | refine Grows.new ?_ _ | refine Grows.drewN ?_ _ | refine Grows.drew ?_ | assumption | (refine Grows.set ?_ (by first | omega | (simp; done) | (simp; omega)) _)))⟩, rfl, A1, c1, s1, rfl, by rw [HN2.out]; exact HS1, by rw [HN2.out]; exact (HO.out.new _).new _, HY2.out (by first | rfl | trivial)⟩, by simp [intOf]; omega⟩
                | false =>
                  go_wp2
                  go_ret2
                  exact GiveD.no (HNk.out (by first | rfl | trivial)) (by repeat (first | exact Grows.refl _ | refine Grows.now ?_ _ | refine Grows.new ?_ _ | refine Grows.drewN ?_ _ | refine Grows.drew ?_ | assumption | (refine Grows.set ?_ (by first | omega | (simp; done) | (simp; omega)) _)))
              · have HN2 : Hid (difL E F (k + 1) = difL E F k ++ [⟨k, v'⟩]) := by show _ = _; rw [HN.out, if_neg hv]
                have hvd : (v' == v) = false := beq_eq_false_iff_ne.2 hv
                clear hv
                cases bb with
                | true =>
                  go_wp2_with (at_builtin; refine wp_appSM elemChg rfl _ _ rfl x2.now (by repeat (first | exact Grows.refl _ | refine Grows.now ?_ _ | refine Grows.new ?_ _ | refine Grows.drewN ?_ _ | refine Grows.drew ?_ | assumption | (refine Grows.set ?_ (by first | omega | (simp; done) | (simp; omega)) _))) s1 c1 A1 _ rfl (((HO.out.new _).new _).new _) _ _ [.int .i64 (k : Int), .int .u64 v'] rfl rfl (cs_new inferInstance inferInstance) (by intro u hu; simp at hu; rcases hu with rfl | rfl <;> rfl) (by omega) ?_; intro A3 c9 y3 hown3 hgr3; have HO3 := hide hown3; have m1 : Mine y3.now ⟨y.now.heap.size, 0, none⟩ (.int .i64 f) := Mine.grown hgr3 inferInstance (fun e => by have := (HO.out.block_lt y.now.heap.size e).2; omega); have m2 : Mine y3.now ⟨y.now.heap.size, 1, none⟩ (.int .i64 t) := Mine.grown hgr3 inferInstance (fun e => by have := (HO.out.block_lt y.now.heap.size e).2; omega); have m3 : Mine y3.now ⟨y.now.heap.size, 2, none⟩ (.int .u64 v) := Mine.grown hgr3 inferInstance (fun e => by have := (HO.out.block_lt y.now.heap.size e).2; omega); have m4 : Mine y3.now ⟨y.now.heap.size + 1, 0, none⟩ (.int .i64 f') := Mine.grown hgr3 inferInstance (fun e => by have := (HO.out.block_lt (y.now.heap.size + 1) e).2; omega); have m5 : Mine y3.now ⟨y.now.heap.size + 1, 1, none⟩ (.int .i64 t') := Mine.grown hgr3 inferInstance (fun e => by have := (HO.out.block_lt (y.now.heap.size + 1) e).2; omega); have m6 : Mine y3.now ⟨y.now.heap.size + 1, 2, none⟩ (.int .u64 v') := Mine.grown hgr3 inferInstance (fun e => by have := (HO.out.block_lt (y.now.heap.size + 1) e).2; omega); have HQ := hide ((hgr3.block (y.now.heap.size + 1) (by first | (simp; done) | (simp; omega)) (fun e => by have := (HO.out.block_lt (y.now.heap.size + 1) e.symm).2; omega)).trans (show _ = some (Obj.cells #[.int .i64 f', .int .i64 t', .int .u64 v'] 49 (0, 0)) from push3 _ _ _ _)); clear hown3 hgr3)
                  refine ⟨⟨k + 1, by omega, by go_num, ⟨y3.now.setCell _ _, (by repeat (first | exact Grows.refl _ | refine Grows.now ?_ _ | refine Grows.new ?_ _ | refine Grows.drewN ?_ _ | refine Grows.drew ?_ | assumption | (refine Grows.set ?_ (by first | omega | (simp; done) | (simp; omega)) _)))⟩, rfl, A3, c9, s1 + 1, rfl, ?_, ?_, HY2.out (by first | rfl | trivial)⟩, by simp [intOf]; omega⟩
                  · show s1 + 1 = _
                    rw [HN2.out, List.length_append, HS1.out]; rfl
                  · rw [HN2.out, csCells_app]
                    exact HO3.out.apart HQ.out (by decide) _
                | false =>
                  go_wp2_with (at_builtin; refine wp_appSM elemChg rfl _ _ rfl x2.now (by repeat (first | exact Grows.refl _ | refine Grows.now ?_ _ | refine Grows.new ?_ _ | refine Grows.drewN ?_ _ | refine Grows.drew ?_ | assumption | (refine Grows.set ?_ (by first | omega | (simp; done) | (simp; omega)) _))) s1 c1 A1 _ rfl (((HO.out.new _).new _).new _) _ _ [.int .i64 (k : Int), .int .u64 v'] rfl rfl (cs_new inferInstance inferInstance) (by intro u hu; simp at hu; rcases hu with rfl | rfl <;> rfl) (by omega) ?_; intro A3 c9 y3 hown3 hgr3; have HO3 := hide hown3; have m1 : Mine y3.now ⟨y.now.heap.size, 0, none⟩ (.int .i64 f) := Mine.grown hgr3 inferInstance (fun e => by have := (HO.out.block_lt y.now.heap.size e).2; omega); have m2 : Mine y3.now ⟨y.now.heap.size, 1, none⟩ (.int .i64 t) := Mine.grown hgr3 inferInstance (fun e => by have := (HO.out.block_lt y.now.heap.size e).2; omega); have m3 : Mine y3.now ⟨y.now.heap.size, 2, none⟩ (.int .u64 v) := Mine.grown hgr3 inferInstance (fun e => by have := (HO.out.block_lt y.now.heap.size e).2; omega); have m4 : Mine y3.now ⟨y.now.heap.size + 1, 0, none⟩ (.int .i64 f') := Mine.grown hgr3 inferInstance (fun e => by have := (HO.out.block_lt (y.now.heap.size + 1) e).2; omega); have m5 : Mine y3.now ⟨y.now.heap.size + 1, 1, none⟩ (.int .i64 t') := Mine.grown hgr3 inferInstance (fun e => by have := (HO.out.block_lt (y.now.heap.size + 1) e).2; omega); have m6 : Mine y3.now ⟨y.now.heap.size + 1, 2, none⟩ (.int .u64 v') := Mine.grown hgr3 inferInstance (fun e => by have := (HO.out.block_lt (y.now.heap.size + 1) e).2; omega); have HQ := hide ((hgr3.block (y.now.heap.size + 1) (by first | (simp; done) | (simp; omega)) (fun e => by have := (HO.out.block_lt (y.now.heap.size + 1) e.symm).2; omega)).trans (show _ = some (Obj.cells #[.int .i64 f', .int .i64 t', .int .u64 v'] 49 (0, 0)) from push3 _ _ _ _)); clear hown3 hgr3)
                  go_ret2
                  exact GiveD.no (HNk.out (by first | rfl | trivial)) (by repeat (first | exact Grows.refl _ | refine Grows.now ?_ _ | refine Grows.new ?_ _ | refine Grows.drewN ?_ _ | refine Grows.drew ?_ | assumption | (refine Grows.set ?_ (by first | omega | (simp; done) | (simp; omega)) _)))
        · have HV := hide (dif_no (N := N) (E := E) (N2 := N2) (F := F) (by omega))
          have hd : ((n : Int) == (m : Int)) = false := beq_eq_false_iff_ne.2 (by omega)
          have H2 := hide C2
          clear C1 C2 hr hr2 ha hb hl hl2
          subst hN
          go_enter Try.func66, Try.ntmps66
          go_wp2_with fail
          refine (H1.out _ (by repeat (first | exact Grows.refl _ | refine Grows.now ?_ _ | refine Grows.new ?_ _ | refine Grows.drewN ?_ _ | refine Grows.drew ?_ | assumption | (refine Grows.set ?_ (by first | omega | (simp; done) | (simp; omega)) _)))).mono ?_; rintro e w' ⟨rfl, hg⟩; obtain ⟨x1, rfl⟩ := hg.later; clear hg
          go_wp2_with fail
          refine (H2.out _ (by repeat (first | exact Grows.refl _ | refine Grows.now ?_ _ | refine Grows.new ?_ _ | refine Grows.drewN ?_ _ | refine Grows.drew ?_ | assumption | (refine Grows.set ?_ (by first | omega | (simp; done) | (simp; omega)) _)))).mono ?_; rintro e w' ⟨rfl, hg⟩; obtain ⟨x2, rfl⟩ := hg.later; clear hg
          go_wp2
          all_goals go_ret2
          all_goals exact GiveD.no HV.out (by repeat (first | exact Grows.refl _ | refine Grows.now ?_ _ | refine Grows.new ?_ _ | refine Grows.drewN ?_ _ | refine Grows.drew ?_ | assumption | (refine Grows.set ?_ (by first | omega | (simp; done) | (simp; omega)) _)))
      · have HV := hide (dif_no (N := N) (E := E) (N2 := N2) (F := F) (fun h => hN h.2.2.1))
        have hd : (N == N2) = false := beq_eq_false_iff_ne.2 hN
        have H2 := hide C2
        clear C1 C2 hr hr2 ha hb hl hl2 hN
        go_enter Try.func66, Try.ntmps66
        go_wp2_with fail
        refine (H1.out _ (by repeat (first | exact Grows.refl _ | refine Grows.now ?_ _ | refine Grows.new ?_ _ | refine Grows.drewN ?_ _ | refine Grows.drew ?_ | assumption | (refine Grows.set ?_ (by first | omega | (simp; done) | (simp; omega)) _)))).mono ?_; rintro e w' ⟨rfl, hg⟩; obtain ⟨x1, rfl⟩ := hg.later; clear hg
        go_wp2_with fail
        refine (H2.out _ (by repeat (first | exact Grows.refl _ | refine Grows.now ?_ _ | refine Grows.new ?_ _ | refine Grows.drewN ?_ _ | refine Grows.drew ?_ | assumption | (refine Grows.set ?_ (by first | omega | (simp; done) | (simp; omega)) _)))).mono ?_; rintro e w' ⟨rfl, hg⟩; obtain ⟨x2, rfl⟩ := hg.later; clear hg
        go_wp2
        all_goals go_ret2
        all_goals exact GiveD.no HV.out (by repeat (first | exact Grows.refl _ | refine Grows.now ?_ _ | refine Grows.new ?_ _ | refine Grows.drewN ?_ _ | refine Grows.drew ?_ | assumption | (refine Grows.set ?_ (by first | omega | (simp; done) | (simp; omega)) _)))
    · have HV := hide (dif_no (N := N) (E := E) (N2 := N2) (F := F) (fun h => hr2 h.2.1))
      have hd : (rightF N2 F == 0) = false := beq_eq_false_iff_ne.2 hr2
      have H2 := hide C2
      clear C1 C2 hr hr2 ha hb hl hl2
      go_enter Try.func66, Try.ntmps66
      go_wp2_with fail
      refine (H1.out _ (by repeat (first | exact Grows.refl _ | refine Grows.now ?_ _ | refine Grows.new ?_ _ | refine Grows.drewN ?_ _ | refine Grows.drew ?_ | assumption | (refine Grows.set ?_ (by first | omega | (simp; done) | (simp; omega)) _)))).mono ?_; rintro e w' ⟨rfl, hg⟩; obtain ⟨x1, rfl⟩ := hg.later; clear hg
      go_wp2_with fail
      refine (H2.out _ (by repeat (first | exact Grows.refl _ | refine Grows.now ?_ _ | refine Grows.new ?_ _ | refine Grows.drewN ?_ _ | refine Grows.drew ?_ | assumption | (refine Grows.set ?_ (by first | omega | (simp; done) | (simp; omega)) _)))).mono ?_; rintro e w' ⟨rfl, hg⟩; obtain ⟨x2, rfl⟩ := hg.later; clear hg
      go_wp2
      all_goals go_ret2
      all_goals exact GiveD.no HV.out (by repeat (first | exact Grows.refl _ | refine Grows.now ?_ _ | refine Grows.new ?_ _ | refine Grows.drewN ?_ _ | refine Grows.drew ?_ | assumption | (refine Grows.set ?_ (by first | omega | (simp; done) | (simp; omega)) _)))
  · have HV := hide (dif_no (N := N) (E := E) (N2 := N2) (F := F) (fun h => hr h.1))
    have hd : (rightF N E == 0) = false := beq_eq_false_iff_ne.2 hr
    have H1 := hide C1
    have hd2 : (rightF N E != 0) = true := bne_iff_ne.2 hr
    clear C1 C2 ha hb hl hl2
    generalize rightF N E = r at *
    go_enter Try.func66, Try.ntmps66
    go_wp2_with fail
    refine (H1.out _ (by repeat (first | exact Grows.refl _ | refine Grows.now ?_ _ | refine Grows.new ?_ _ | refine Grows.drewN ?_ _ | refine Grows.drew ?_ | assumption | (refine Grows.set ?_ (by first | omega | (simp; done) | (simp; omega)) _)))).mono ?_; rintro e w' ⟨rfl, hg⟩; obtain ⟨x1, rfl⟩ := hg.later; clear hg
    go_wp2
    all_goals go_ret2
    all_goals exact GiveD.no HV.out (by repeat (first | exact Grows.refl _ | refine Grows.now ?_ _ | refine Grows.new ?_ _ | refine Grows.drewN ?_ _ | refine Grows.drew ?_ | assumption | (refine Grows.set ?_ (by first | omega | (simp; done) | (simp; omega)) _)))
end Go.Proofs.Ytpnncadglhlclaa
