/- Walk: edges laid by their nodes. -/
import Derived.Deep.DeepCutAuto
import Derived.RangeFuncSeq
import Derived.RangeFuncLeaves
import Derived.RangeFuncRecord
import Derived.RangeFuncCalls
import Derived.Test.YtkfobolbilhjbaaGreatQFlowRounds00
import Derived.Test.YtkfobolbilhjbaaGreatQFlowRounds01
import Derived.Test.YtkfobolbilhjbaaGreatQFlowRounds02
namespace Go.Proofs.YtkfobolbilhjbaaGreat
open Go Go.RowKit
def nv (l : List Nat) : List Value := l.map fun (i : Nat) => Value.int .i64 (i : Int)
theorem nv_len (l : List Nat) : (nv l).length = l.length := by simp [nv]
theorem nv_set (l : List Nat) (j v : Nat) : (nv l).set j (.int .i64 (v : Int)) = nv (l.set j v) := by simp [nv, List.map_set]
theorem nv_rep (n : Nat) : nv (List.replicate n 0) = List.replicate n (.int .i64 0) := by simp [nv]
def gn (l : List Nat) (k : Nat) : Nat := l.getD k 0
theorem nv_at {l : List Nat} {j : Nat} (h : j < l.length) : (nv l)[j]? = some (.int .i64 (gn l j : Int)) := by simp [nv, gn, h]
theorem gn_rep (n k : Nat) : gn (List.replicate n 0) k = 0 := by
  unfold gn
  rw [List.getD_eq_getElem?_getD, List.getElem?_replicate]
  split <;> rfl
theorem gn_set (l : List Nat) (j k v : Nat) (hj : j < l.length) : gn (l.set j v) k = if k = j then v else gn l k := by
  unfold gn
  by_cases h : k = j
  · subst h; simp [hj]
  · simp [h, Ne.symm h]
theorem Row1.nat {w : World} {g n c : Nat} {e : TypeId} {l : List Nat} (h : Row1 w g e 1 n c (nv l)) {j : Nat} (hj : j < n) : Mine w ⟨g, j, none⟩ (.int .i64 (gn l j : Int)) := by
  have hl := h.len
  rw [nv_len] at hl
  exact h.mine (nv_at (by omega))
theorem Row1.nlen {w : World} {g n c : Nat} {e : TypeId} {l : List Nat} (h : Row1 w g e 1 n c (nv l)) : l.length = n := by
  have hl := h.len
  rw [nv_len] at hl
  omega
def GiveLaid (w : World) (N n : Nat) (f : Nat → Nat) (e : Ending) (w' : World) : Prop :=
  ∃ g1 g2 X B, e = .returned (.agg #[.slice (some ⟨g1, 0, none⟩) n n, .slice (some ⟨g2, 0, none⟩) (N + 1) (N + 1)]) ∧ Row1 w' g1 3 1 n n (nv X) ∧ Row1 w' g2 3 1 (N + 1) (N + 1) (nv B) ∧
    (∀ i, i < n → X[posN f n i]? = some i) ∧ (∀ v, v ≤ N → gn B v = begN f n v) ∧ w.heap.size ≤ g1 ∧ w.heap.size ≤ g2 ∧ Grows w w'
theorem eq_add2 (a : Nat) : (a = a + 1 + 1) = False := by simp; omega
theorem heap_drew (w : World) : w.drew.heap = w.heap := rfl
theorem heap_push (w : World) (o : Obj) : (w.alloc o).heap = w.heap.push o := rfl
def LaidL1 (w : World) (N n : Nat) (f : Nat → Nat) (b7 g1 g2 j : Nat) (wr : World) : Prop :=
  ∃ y : Later w, wr = y.now ∧ Arr y.now b7 113 [.slice (some ⟨g1, 0, none⟩) n n, .slice (some ⟨g2, 0, none⟩) (N + 1) (N + 1)] ∧ Row1 y.now g1 3 1 n n (nv (List.replicate n 0)) ∧
    ∃ B, Row1 y.now g2 3 1 (N + 1) (N + 1) (nv B) ∧ ∀ v, v ≤ N → gn B v = if v = 0 then 0 else cntN f (v - 1) j
theorem cntN_le (f : Nat → Nat) (v j : Nat) : cntN f v j ≤ j := by unfold cntN; exact Nat.le_trans (List.length_filter_le _ _) (by simp)
theorem LaidL1.step {w : World} {N n j : Nat} {f : Nat → Nat} {b7 g1 g2 : Nat} {B : List Nat} (y : Later w) {W : World} (hg : Grows y.now W) (ha : Arr y.now b7 113 [.slice (some ⟨g1, 0, none⟩) n n, .slice (some ⟨g2, 0, none⟩) (N + 1) (N + 1)])
    (hr1 : Row1 y.now g1 3 1 n n (nv (List.replicate n 0))) (hr2 : Row1 y.now g2 3 1 (N + 1) (N + 1) (nv B)) (hl2 : w.heap.size ≤ g2) (hne : g1 ≠ g2) (hj : f j < N) (hB : ∀ v, v ≤ N → gn B v = if v = 0 then 0 else cntN f (v - 1) j) :
    LaidL1 w N n f b7 g1 g2 (j + 1) (W.setCell ⟨g2, f j + 1, none⟩ (.int .i64 ((gn B (f j + 1) : Int) + 1))) := by
  have hlen := hr2.nlen
  refine ⟨⟨_, (y.grows.trans hg).set hl2 _⟩, rfl, (ha.grow hg).other (hr2.ne ha (by decide)) _, (hr1.grow hg).other (Ne.symm hne) _, B.set (f j + 1) (gn B (f j + 1) + 1), ?_, fun v hv => ?_⟩
  · rw [← nv_set, Int.natCast_add, Int.natCast_one]
    exact (hr2.grow hg).set _ _
  · rw [gn_set _ _ _ _ (by omega), hB v hv, hB (f j + 1) (by omega), if_neg (by omega : ¬ f j + 1 = 0), cntN_succ]
    by_cases h0 : v = 0
    · subst h0; simp
    · rw [if_neg h0, if_neg h0]
      by_cases h1 : v = f j + 1
      · subst h1; simp
      · rw [if_neg h1, if_neg (by omega)]; omega
def LaidL2 (w : World) (N n : Nat) (f : Nat → Nat) (b7 g1 g2 v : Nat) (wr : World) : Prop :=
  ∃ y : Later w, wr = y.now ∧ Arr y.now b7 113 [.slice (some ⟨g1, 0, none⟩) n n, .slice (some ⟨g2, 0, none⟩) (N + 1) (N + 1)] ∧ Row1 y.now g1 3 1 n n (nv (List.replicate n 0)) ∧
    ∃ B, Row1 y.now g2 3 1 (N + 1) (N + 1) (nv B) ∧ ∀ u, u ≤ N → gn B u = if u ≤ v then begN f n u else cntN f (u - 1) n
theorem LaidL2.step {w : World} {N n v : Nat} {f : Nat → Nat} {b7 g1 g2 : Nat} {B : List Nat} (y : Later w) {W : World} (hg : Grows y.now W) (ha : Arr y.now b7 113 [.slice (some ⟨g1, 0, none⟩) n n, .slice (some ⟨g2, 0, none⟩) (N + 1) (N + 1)])
    (hr1 : Row1 y.now g1 3 1 n n (nv (List.replicate n 0))) (hr2 : Row1 y.now g2 3 1 (N + 1) (N + 1) (nv B)) (hl2 : w.heap.size ≤ g2) (hne : g1 ≠ g2) (hv : v < N) (hB : ∀ u, u ≤ N → gn B u = if u ≤ v then begN f n u else cntN f (u - 1) n) :
    LaidL2 w N n f b7 g1 g2 (v + 1) (W.setCell ⟨g2, v + 1, none⟩ (.int .i64 ((gn B (v + 1) : Int) + (gn B v : Int)))) := by
  have hlen := hr2.nlen
  refine ⟨⟨_, (y.grows.trans hg).set hl2 _⟩, rfl, (ha.grow hg).other (hr2.ne ha (by decide)) _, (hr1.grow hg).other (Ne.symm hne) _, B.set (v + 1) (gn B (v + 1) + gn B v), ?_, fun u hu => ?_⟩
  · rw [← nv_set, Int.natCast_add]
    exact (hr2.grow hg).set _ _
  · rw [gn_set _ _ _ _ (by omega), hB u hu, hB (v + 1) (by omega), hB v (by omega), if_neg (by omega : ¬ v + 1 ≤ v), if_pos (Nat.le_refl v)]
    by_cases h1 : u = v + 1
    · subst h1
      rw [if_pos rfl, if_pos (Nat.le_refl _), begN_succ, Nat.add_sub_cancel]; omega
    · rw [if_neg h1]
      by_cases h2 : u ≤ v
      · rw [if_pos h2, if_pos (by omega)]
      · rw [if_neg h2, if_neg (by omega)]
theorem cloneN (A : Option Addr) (n c : Nat) (B : List Nat) (w : World) (h : Rd w A 1 n (nv B)) (h0 : 0 < n) (hn : n ≤ 1000000) :
    Calls Tryz.prog 84 #[.slice A n c] w fun e w' => ∃ g c', e = .returned (.slice (some ⟨g, 0, none⟩) n c') ∧ Row1 w' g 3 1 n c' (nv B) ∧ w.heap.size ≤ g ∧ Grows w w' := by
  have hl : B.length = n := by have := h.len; rwa [nv_len] at this
  obtain ⟨b, off, rfl, hc⟩ := h.at_ h0
  have hm : nv B = (B.map Int.ofNat).map (Value.int .i64) := by simp [nv]
  refine (Tryz.slices_Clone_int b off n c (B.map Int.ofNat) w (by simp; omega) (by omega) (fun j hj => hc j _ (by
    rw [hm, List.getElem?_map, List.getElem?_eq_getElem hj]
    simp [List.getD_eq_getElem?_getD, List.getElem?_eq_getElem hj]))).mono ?_
  rintro e w' ⟨v', rfl, ho, hv, hg⟩
  obtain ⟨A', c', rfl⟩ := own_form ho
  rw [List.take_of_length_le (by simp; omega), ← hm] at ho
  obtain ⟨g, hA, hB⟩ : ∃ g, A' = some ⟨g, 0, none⟩ ∧ w.heap.size ≤ g := by
    obtain ⟨g, cur, h1, h2, _⟩ := Own.at_ (A := A') (c := c') ho h0
    exact ⟨g, h1, h2⟩
  subst hA
  exact ⟨g, c', rfl, (Own.row ho).1, hB, hg⟩
def LaidL3 (w : World) (N n : Nat) (f : Nat → Nat) (b7 g1 g2 g3 c3 : Nat) (B : List Nat) (j : Nat) (wr : World) : Prop :=
  ∃ y : Later w, wr = y.now ∧ Arr y.now b7 113 [.slice (some ⟨g1, 0, none⟩) n n, .slice (some ⟨g2, 0, none⟩) (N + 1) (N + 1)] ∧ Row1 y.now g2 3 1 (N + 1) (N + 1) (nv B) ∧
    ∃ X T, Row1 y.now g1 3 1 n n (nv X) ∧ Row1 y.now g3 3 1 (N + 1) c3 (nv T) ∧ (∀ i, i < j → X[posN f n i]? = some i) ∧ ∀ v, v < N → gn T v = begN f n v + cntN f v j
theorem LaidL3.step {w : World} {N n j : Nat} {f : Nat → Nat} {b7 g1 g2 g3 c3 : Nat} {B X T : List Nat} (y : Later w) {W : World} (hg : Grows y.now W) (ha : Arr y.now b7 113 [.slice (some ⟨g1, 0, none⟩) n n, .slice (some ⟨g2, 0, none⟩) (N + 1) (N + 1)])
    (hr2 : Row1 y.now g2 3 1 (N + 1) (N + 1) (nv B)) (hr1 : Row1 y.now g1 3 1 n n (nv X)) (hr3 : Row1 y.now g3 3 1 (N + 1) c3 (nv T)) (hl1 : w.heap.size ≤ g1) (hl3 : w.heap.size ≤ g3) (h12 : g1 ≠ g2) (h13 : g1 ≠ g3) (h23 : g2 ≠ g3) (hj : f j < N) (hjn : j < n)
    (hX : ∀ i, i < j → X[posN f n i]? = some i) (hT : ∀ v, v < N → gn T v = begN f n v + cntN f v j) :
    LaidL3 w N n f b7 g1 g2 g3 c3 B (j + 1) ((W.setCell ⟨g1, gn T (f j), none⟩ (.int .i64 (j : Int))).setCell ⟨g3, f j, none⟩ (.int .i64 ((gn T (f j) : Int) + 1))) := by
  have hlen := hr3.nlen
  have hlen1 := hr1.nlen
  have hp : gn T (f j) = posN f n j := hT _ hj
  refine ⟨⟨_, ((y.grows.trans hg).set hl1 _).set hl3 _⟩, rfl, ((ha.grow hg).other (hr1.ne ha (by decide)) _).other (hr3.ne ha (by decide)) _, ((hr2.grow hg).other h12 _).other (Ne.symm h23) _,
    X.set (gn T (f j)) j, T.set (f j) (gn T (f j) + 1), ?_, ?_, fun i hi => ?_, fun v hv => ?_⟩
  · rw [← nv_set]
    exact ((hr1.grow hg).set _ _).other (Ne.symm h13) _
  · rw [← nv_set, Int.natCast_add, Int.natCast_one]
    exact ((hr3.grow hg).other h13 _).set _ _
  · rw [hp]
    by_cases h1 : i = j
    · subst h1
      rw [List.getElem?_set_self (by rw [hlen1]; exact posN_m f n i hjn)]
    · rw [List.getElem?_set_ne (Ne.symm (posN_ne f n (by omega) hjn)), hX i (by omega)]
  · rw [gn_set _ _ _ _ (by omega), cntN_succ, hT v hv]
    by_cases h1 : v = f j
    · subst h1; simp [hp, posN]; omega
    · rw [if_neg h1, if_neg (fun e => h1 e.symm)]; omega
def LaidAt (w : World) (N n : Nat) (s7 : Value) (wx : World) : Prop :=
  ∃ x : Later w, wx = x.now ∧ ∃ b7 g1 g2, s7 = .pointer (some ⟨b7, 0, none⟩) ∧ Arr x.now b7 113 [.slice (some ⟨g1, 0, none⟩) n n, .slice (some ⟨g2, 0, none⟩) (N + 1) (N + 1)] ∧
    Row1 x.now g1 3 1 n n (nv (List.replicate n 0)) ∧ Row1 x.now g2 3 1 (N + 1) (N + 1) (nv (List.replicate (N + 1) 0)) ∧ g1 ≠ g2 ∧ w.heap.size ≤ g1 ∧ w.heap.size ≤ g2
theorem laid_rel {w wx : World} {s7 : Value} {b7 : Nat} (n N g1 g2 : Nat) (hs : s7 = .pointer (some ⟨b7, 0, none⟩)) (hg : Grows w wx)
    (h1 : wx.heap[b7]? = some (.cells [Value.slice (some ⟨g1, 0, none⟩) n n, .slice (some ⟨g2, 0, none⟩) (N + 1) (N + 1)].toArray 113 (0, 0))) (h2 : wx.heap[g1]? = some (.cells (List.replicate n (Value.int .i64 0)).toArray 3 (0, 0)))
    (h3 : wx.heap[g2]? = some (.cells (List.replicate (N + 1) (Value.int .i64 0)).toArray 3 (0, 0))) (hne : g1 ≠ g2) (hl : w.heap.size ≤ g1 ∧ w.heap.size ≤ g2) (hn : n ≤ 1000000) (hN : N ≤ 100000) : LaidAt w N n s7 wx :=
  ⟨⟨wx, hg⟩, rfl, b7, g1, g2, hs, ⟨h1⟩, Arr.row ⟨by rw [nv_rep]; exact h2⟩ (by simp [nv_len]) (by omega), Arr.row ⟨by rw [nv_rep]; exact h3⟩ (by simp [nv_len]) (by omega), hne, hl.1, hl.2⟩
set_option maxRecDepth 20000 in
set_option maxHeartbeats 4000000 in
theorem adjLaid (N : Nat) (A : Option Addr) (n c : Nat) (E : List Edg) (k : FuncId) (nd : Edg → Nat) (w : World) (h : Rd w A 3 n (esCells E)) (hn : n ≤ 1000000) (hN : N ≤ 100000)
    (hk : ∀ args W, (callFunc k args).run Tryz.prog W = .ok (.enter k args) W) (hf : ∀ i, i < n → ∀ W, Calls Tryz.prog k #[eVal (ge E i)] W fun x w' => x = .returned (.int .i64 (nd (ge E i) : Int)) ∧ Grows W w') (hnd : ∀ i, i < n → nd (ge E i) < N) :
    Calls Tryz.prog 65 #[.int .i64 (N : Int), .slice A n c, .func (.func k) #[] #[]] w (GiveLaid w N n fun i => nd (ge E i)) := by
  have HE := hide h
  have HF := hide hf
  have HD := hide hnd
  have mk1 := run_makeInts n (by omega)
  have mk2 := run_makeInts (N + 1) (by omega)
  clear h hf hnd
  rw [Int.natCast_add, Int.natCast_one] at mk2
  have hw1 : IntKind.i64.wrap ((N : Int) + 1) = (N : Int) + 1 := IntWalk.i64_in _ (by omega)
  go_enter Tryz.func65, Tryz.ntmps65
  go_upto_region 1 with fail
  have i0 : Mine (w.alloc (.cells #[.slice none 0 0, .slice none 0 0] 113)) ⟨w.heap.size, 0, none⟩ (.slice none 0 0) := Mine.new0 _ _ _ _
  have i1 : Mine (w.alloc (.cells #[.slice none 0 0, .slice none 0 0] 113)) ⟨w.heap.size, 1, none⟩ (.slice none 0 0) := Mine.new1 _ _ _ _ _
  have hgW : Grows w (w.alloc (.cells #[.slice none 0 0, .slice none 0 0] 113)) := (Grows.refl w).new _
  have hsz : w.heap.size < (w.alloc (.cells #[.slice none 0 0, .slice none 0 0] 113)).heap.size := by simp
  replace HE := hide (HE.out.grows hgW)
  generalize w.alloc (.cells #[.slice none 0 0, .slice none 0 0] 113) = W0 at *
  go_cut [7] (fun s7 wx => LaidAt W0 N n s7 wx)
  case first =>
    go_region_with fail
    all_goals go_wp2_with fail
    all_goals go_meet
    all_goals (case rel =>
      first
        | (refine laid_rel n N (W0.heap.size) (W0.heap.size + 1) (by with_reducible rfl) GG ?_ ?_ ?_ (by omega) (by omega) hn hN <;> (simp [heap_drew, heap_push, Array.getElem_push, Array.getElem?_push, eq_add2]; done))
        | (refine laid_rel n N (W0.heap.size) (W0.heap.size + 1 + 1) (by with_reducible rfl) GG ?_ ?_ ?_ (by omega) (by omega) hn hN <;> (simp [heap_drew, heap_push, Array.getElem_push, Array.getElem?_push, eq_add2]; done))
        | (refine laid_rel n N (W0.heap.size + 1) (W0.heap.size) (by with_reducible rfl) GG ?_ ?_ ?_ (by omega) (by omega) hn hN <;> (simp [heap_drew, heap_push, Array.getElem_push, Array.getElem?_push, eq_add2]; done))
        | (refine laid_rel n N (W0.heap.size + 1) (W0.heap.size + 1 + 1) (by with_reducible rfl) GG ?_ ?_ ?_ (by omega) (by omega) hn hN <;> (simp [heap_drew, heap_push, Array.getElem_push, Array.getElem?_push, eq_add2]; done))
        | (refine laid_rel n N (W0.heap.size + 1 + 1) (W0.heap.size) (by with_reducible rfl) GG ?_ ?_ ?_ (by omega) (by omega) hn hN <;> (simp [heap_drew, heap_push, Array.getElem_push, Array.getElem?_push, eq_add2]; done))
        | (refine laid_rel n N (W0.heap.size + 1 + 1) (W0.heap.size + 1) (by with_reducible rfl) GG ?_ ?_ ?_ (by omega) (by omega) hn hN <;> (simp [heap_drew, heap_push, Array.getElem_push, Array.getElem?_push, eq_add2]; done)))
  case rest =>
    obtain ⟨x0, rfl, b7, g1, g2, rfl, hb7, hr1, hr2, hne, hl1, hl2⟩ := hcut
    have HL1 : Hid (LaidL1 W0 N n (fun i => nd (ge E i)) b7 g1 g2 0 x0.now) := ⟨x0, rfl, hb7, hr1, _, hr2, fun v hv => by
      rw [cntN_zero, gn_rep]; split <;> rfl⟩
    have HN := hide hne
    clear hb7 hr1 hr2 hne
    go_wp2_with fail
    go_loopw [24] (fun s wr => ∃ j : Nat, j ≤ n ∧ s = .int .i64 (j : Int) ∧ LaidL1 W0 N n (fun i => nd (ge E i)) b7 g1 g2 j wr) (fun s _ => n - (Go.RowKit.intOf s).toNat)
    case atStart => exact ⟨0, by omega, by go_num, HL1.out⟩
    case round =>
      obtain ⟨j, hj, rfl, y, rfl, ha, hr1, B, hr2, hB⟩ := hrel
      have HB := hide hB
      have HR1 := hide hr1
      have HR2 := hide hr2
      clear hB hr1 hr2 HL1
      by_cases hlt : j < n
      · obtain ⟨b, off, rfl, hc⟩ := HE.out.edgesH (by omega)
        obtain ⟨e1, e2, e3⟩ := hc j hlt
        have hd := HD.out j hlt
        have hb1 : gn B (nd (ge E j) + 1) ≤ 1000000 := by rw [HB.out _ (by omega), if_neg (by omega)]; exact Nat.le_trans (cntN_le _ _ _) (by omega)
        have m1 := HR2.out.nat (j := nd (ge E j) + 1) (by omega)
        have HX := hide (HF.out j hlt)
        clear hc
        go_wp2_with fail
        (refine wp_region_tail1 10 (by kernel_rfl) (by kernel_rfl) ?_; simp only [List.take_succ_cons, List.take_zero, List.drop_succ_cons, List.drop_zero]; (repeat' ((first | refine gLex_val0 rfl (by kernel_rfl) (fun K hK => ?_) | refine gLex_undef rfl rfl rfl (by kernel_rfl) (fun K hK => ?_) | (refine gLex_ask rfl rfl rfl ?_; first | (apply gAsk_yes; kernel_rfl; intro K hK) | ((first | apply gAsk_no1 | apply gAsk_no2); kernel_rfl; intro K hK))) <;> (go_simp; (try (simp only [↓IntWalk.iteOmega]; try go_simp)); (try simp (disch := omega) only [IntWalk.i64_in]); (try simp (disch := omega) only [IntWalk.u64_in]); first | (refine hK _ ?_; clear hK K) | (apply Exists.intro; refine ⟨fun x => ?_, hK _ ?_⟩; (first | (exact HX.out _)); clear hK K)))); refine gLex_endT (fun x => ?_))
        go_wp2_with fail
        have hgx : Grows y.now x.now := GG
        exact ⟨⟨j + 1, by omega, by go_num, LaidL1.step (f := fun i => nd (ge E i)) y hgx ha HR1.out HR2.out hl2 HN.out hd HB.out⟩, by simp [Go.RowKit.intOf]; omega⟩
      · obtain rfl : j = n := by omega
        have HL2 : Hid (LaidL2 W0 N j (fun i => nd (ge E i)) b7 g1 g2 0 y.now) := ⟨y, rfl, ha, HR1.out, _, HR2.out, fun v hv => by
          rw [HB.out v hv]
          by_cases h0 : v = 0
          · subst h0; rw [begN_zero]; rfl
          · rw [if_neg h0, if_neg (by omega)]⟩
        clear HB HR1 HR2 ha
        go_wp2_with fail
        go_loopw [40] (fun s wr => ∃ v : Nat, v ≤ N ∧ s = .int .i64 (v : Int) ∧ LaidL2 W0 N j (fun i => nd (ge E i)) b7 g1 g2 v wr) (fun s _ => N - (Go.RowKit.intOf s).toNat)
        case atStart => exact ⟨0, by omega, by go_num, HL2.out⟩
        case round =>
          obtain ⟨v, hv, rfl, y2, rfl, ha, hr1, B, hr2, hB⟩ := hrel
          have HB := hide hB
          have HR1 := hide hr1
          have HR2 := hide hr2
          clear hB hr1 hr2 HL2
          by_cases hlt : v < N
          · have m1 := HR2.out.nat (j := v) (by omega)
            have m2 := HR2.out.nat (j := v + 1) (by omega)
            have b1 : gn B v ≤ 1000000 := by rw [HB.out v (by omega), if_pos (by omega)]; exact Nat.le_trans (begN_le _ _ _) hn
            have b2 : gn B (v + 1) ≤ 1000000 := by rw [HB.out (v + 1) (by omega), if_neg (by omega)]; exact Nat.le_trans (cntN_le _ _ _) hn
            go_wp2_with fail
            (refine wp_region_tail1 13 (by kernel_rfl) (by kernel_rfl) ?_; simp only [List.take_succ_cons, List.take_zero, List.drop_succ_cons, List.drop_zero]; (repeat' ((first | refine gLex_val0 rfl (by kernel_rfl) (fun K hK => ?_) | refine gLex_undef rfl rfl rfl (by kernel_rfl) (fun K hK => ?_) | (refine gLex_ask rfl rfl rfl ?_; first | (apply gAsk_yes; kernel_rfl; intro K hK) | ((first | apply gAsk_no1 | apply gAsk_no2); kernel_rfl; intro K hK))) <;> (go_simp; (try (simp only [↓IntWalk.iteOmega]; try go_simp)); (try simp (disch := omega) only [IntWalk.i64_in]); (try simp (disch := omega) only [IntWalk.u64_in]); refine hK _ ?_; clear hK K))); refine gLex_endT (fun x => ?_))
            go_wp2_with fail
            have hgx : Grows y2.now x.now := GG
            exact ⟨⟨v + 1, by omega, by go_num, LaidL2.step y2 hgx ha HR1.out HR2.out hl2 HN.out hlt HB.out⟩, by simp [Go.RowKit.intOf]; omega⟩
          · obtain rfl : v = N := by omega
            have HL3 : Hid (∀ u, u ≤ v → gn B u = begN (fun i => nd (ge E i)) j u) := fun u hu => by rw [HB.out u hu, if_pos hu]
            have HC := hide (fun (W : World) (g : Grows y2.now W) => cloneN _ (v + 1) (v + 1) B W ((HR2.out.grow g).rd) (by omega) (by omega))
            clear HB
            have hlt1 := HR1.out.lt
            have hlt2 := HR2.out.lt
            go_wp2_with (first
              | (go_at_call 84; refine (HC.out _ GG).mono ?_; rintro e w' ⟨g3, c3, rfl, hr3, hl3, hg⟩; obtain ⟨x3, rfl⟩ := hg.later; have HR3 := hide hr3; clear hg hr3))
            have h13 : g1 ≠ g3 := by omega
            have h23 : g2 ≠ g3 := by omega
            have hl3' : W0.heap.size ≤ g3 := Nat.le_trans y2.grows.size hl3
            have HS : Hid (LaidL3 W0 v j (fun i => nd (ge E i)) b7 g1 g2 g3 c3 B 0 x3.now) :=
              ⟨⟨_, y2.grows.trans x3.grows⟩, rfl, ha.grow x3.grows, HR2.out.grow x3.grows, _, B, HR1.out.grow x3.grows, HR3.out, fun i hi => absurd hi (by omega), fun u hu => by rw [HL3.out u (by omega), cntN_zero]; rfl⟩
            have HBL : Hid (∀ u, u ≤ v → gn B u = begN (fun i => nd (ge E i)) j u) := HL3.out
            have H13 := hide h13
            have H23 := hide h23
            clear HR1 HR2 HR3 HL3 HC ha hlt1 hlt2 hl3 h13 h23
            go_loopw [62] (fun s wr => ∃ i : Nat, i ≤ j ∧ s = .int .i64 (i : Int) ∧ LaidL3 W0 v j (fun i => nd (ge E i)) b7 g1 g2 g3 c3 B i wr) (fun s _ => j - (Go.RowKit.intOf s).toNat)
            case atStart => exact ⟨0, by omega, by go_num, HS.out⟩
            case round =>
              obtain ⟨i, hi, rfl, y3, rfl, ha, hr2, X, T, hr1, hr3, hX, hT⟩ := hrel
              have HX := hide hX
              have HT := hide hT
              have HR1 := hide hr1
              have HR2 := hide hr2
              have HR3 := hide hr3
              clear hX hT hr1 hr2 hr3 HS
              by_cases hlt : i < j
              · obtain ⟨b, off, rfl, hc⟩ := HE.out.edgesH (by omega)
                obtain ⟨e1, e2, e3⟩ := hc i hlt
                have hd := HD.out i hlt
                have hp : gn T (nd (ge E i)) < j := by rw [HT.out _ hd]; exact posN_m (fun i => nd (ge E i)) j i hlt
                have m1 := HR3.out.nat (j := nd (ge E i)) (by omega)
                have m2 := HR1.out.nat (j := gn T (nd (ge E i))) hp
                have HXX := hide (HF.out i hlt)
                clear hc
                go_wp2_with ((refine (HXX.out _).mono ?_; rintro e w' ⟨rfl, hg⟩; obtain ⟨x4, rfl⟩ := hg.later; clear hg))
                (refine wp_region_tail1 8 (by kernel_rfl) (by kernel_rfl) ?_; simp only [List.take_succ_cons, List.take_zero, List.drop_succ_cons, List.drop_zero]; (repeat' ((first | refine gLex_val0 rfl (by kernel_rfl) (fun K hK => ?_) | refine gLex_undef rfl rfl rfl (by kernel_rfl) (fun K hK => ?_) | (refine gLex_ask rfl rfl rfl ?_; first | (apply gAsk_yes; kernel_rfl; intro K hK) | ((first | apply gAsk_no1 | apply gAsk_no2); kernel_rfl; intro K hK))) <;> (go_simp; (try (simp only [↓IntWalk.iteOmega]; try go_simp)); (try simp (disch := omega) only [IntWalk.i64_in]); (try simp (disch := omega) only [IntWalk.u64_in]); refine hK _ ?_; clear hK K))); refine gLex_endT (fun x => ?_))
                go_upto_region 18 with fail
                have hgx : Grows y3.now x.now := GG
                have m3 : Mine (x.now.setCell ⟨g1, gn T (nd (ge E i)), none⟩ (.int .i64 (i : Int))) ⟨g3, nd (ge E i), none⟩ _ := ((HR3.out.grow hgx).other H13.out _).nat (j := nd (ge E i)) (by omega)
                have b1 : gn T (nd (ge E i)) ≤ 1000000 := by omega
                go_wp2_with fail
                exact ⟨⟨i + 1, by omega, by go_num, LaidL3.step (f := fun i => nd (ge E i)) y3 hgx ha HR2.out HR1.out HR3.out hl1 hl3' HN.out H13.out H23.out hd hlt HX.out HT.out⟩, by simp [Go.RowKit.intOf]; omega⟩
              · obtain rfl : i = j := by omega
                go_wp2_with fail
                refine bodyPost_ret (v := .agg #[.slice (some ⟨g1, 0, none⟩) i i, .slice (some ⟨g2, 0, none⟩) (v + 1) (v + 1)]) (by simp (maxDischargeDepth := 6) [results, Tryz.results65, go_sem, *]) rfl ⟨g1, g2, X, B, rfl, ?_, ?_, HX.out, HBL.out, by omega, by omega, ?_⟩
                · exact (HR1.out.other (by simp; omega) _).other (by simp; omega) _
                · exact (HR2.out.other (by simp; omega) _).other (by simp; omega) _
                · exact ((hgW.trans y3.grows).set (Nat.le_refl _) _).set (Nat.le_refl _) _
end Go.Proofs.YtkfobolbilhjbaaGreat

namespace Go.Proofs.YtkfobolbilhjbaaGreat
open Go Go.RowKit
def scCells (p : Nat × Nat) : List Value := [.int .u64 (p.1 : Int), .int .u64 (p.2 : Int)]
def scs (L : List (Nat × Nat)) : List Value := L.flatMap scCells
def gp (L : List (Nat × Nat)) (i : Nat) : Nat × Nat := L.getD i (0, 0)
theorem scs_len (L : List (Nat × Nat)) : (scs L).length = L.length * 2 := flat_len scCells 2 (fun _ => rfl) L
theorem scs_at (L : List (Nat × Nat)) (i j : Nat) (hi : i < L.length) (hj : j < 2) : (scs L)[i * 2 + j]? = (scCells (gp L i))[j]? := flat_get scCells 2 (fun _ => rfl) (0, 0) L i j hi hj
theorem gp_set (L : List (Nat × Nat)) (i j : Nat) (p : Nat × Nat) (hi : i < L.length) : gp (L.set i p) j = if j = i then p else gp L j := by
  unfold gp
  by_cases h : j = i
  · subst h; simp [hi]
  · simp [h, Ne.symm h]
theorem scs_set (L : List (Nat × Nat)) (i : Nat) (p : Nat × Nat) (hi : i < L.length) : ((scs L).set (i * 2) (.int .u64 (p.1 : Int))).set (i * 2 + 1) (.int .u64 (p.2 : Int)) = scs (L.set i p) := by
  apply List.ext_getElem?
  intro k
  have hk : k = k / 2 * 2 + k % 2 := (Nat.div_add_mod' k 2).symm
  have hm : k % 2 < 2 := Nat.mod_lt _ (by omega)
  have hl := scs_len L
  have hl2 := scs_len (L.set i p)
  rw [List.length_set] at hl2
  rcases Nat.lt_or_ge (k / 2) L.length with hlt | hge
  · have h1 := scs_at L (k / 2) (k % 2) hlt hm
    have h2 := scs_at (L.set i p) (k / 2) (k % 2) (by simpa using hlt) hm
    rw [← hk] at h1 h2
    rw [h2, gp_set _ _ _ _ hi]
    by_cases he : k / 2 = i
    · rw [if_pos he]
      rcases (by omega : k = i * 2 ∨ k = i * 2 + 1) with e | e
      · have e2 : k % 2 = 0 := by omega
        rw [List.getElem?_set_ne (by omega), e, List.getElem?_set_self (by omega)]
        rw [e] at e2
        rw [e2]; rfl
      · have e2 : k % 2 = 1 := by omega
        rw [e, List.getElem?_set_self (by simp; omega)]
        rw [e] at e2
        rw [e2]; rfl
    · rw [if_neg he, List.getElem?_set_ne (by omega), List.getElem?_set_ne (by omega), h1]
  · rw [List.getElem?_eq_none (by simp; omega), List.getElem?_eq_none (by omega)]
structure StL (w : World) (b g : Nat) (L : List (Nat × Nat)) (m : Int) : Prop where
  row : Arr w b 150 [.slice (some ⟨g, 0, none⟩) L.length L.length, .int .u64 1, .int .i64 m]
  cells : Row1 w g 169 2 L.length L.length (scs L)
theorem StL.c0 {w : World} {b g : Nat} {L : List (Nat × Nat)} {m : Int} (h : StL w b g L m) {i : Nat} (hi : i < L.length) : Mine w ⟨g, i * 2, none⟩ (.int .u64 ((gp L i).1 : Int)) :=
  h.cells.mine (by have := scs_at L i 0 hi (by omega); rw [Nat.add_zero] at this; rw [this]; rfl)
theorem StL.c1 {w : World} {b g : Nat} {L : List (Nat × Nat)} {m : Int} (h : StL w b g L m) {i : Nat} (hi : i < L.length) : Mine w ⟨g, i * 2 + 1, none⟩ (.int .u64 ((gp L i).2 : Int)) :=
  h.cells.mine (by rw [scs_at L i 1 hi (by omega)]; rfl)
theorem StL.ne {w : World} {b g : Nat} {L : List (Nat × Nat)} {m : Int} (h : StL w b g L m) : g ≠ b := h.cells.ne h.row (by decide)
theorem StL.touch {w w' : World} {b g : Nat} {L : List (Nat × Nat)} {m : Int} {S : Nat → Prop} (h : StL w b g L m) (ht : Touch S w w') (h1 : ¬ S b) (h2 : ¬ S g) : StL w' b g L m := ⟨h.row.touch ht h1, h.cells.touch ht h2⟩
theorem StL.grow {w w' : World} {b g : Nat} {L : List (Nat × Nat)} {m : Int} (h : StL w b g L m) (ht : Grows w w') : StL w' b g L m := ⟨h.row.grow ht, h.cells.grow ht⟩
theorem stLen (b : Nat) (g n c : Nat) (u : Value) (v : Value) (w : World) (h : Arr w b 150 [.slice (some ⟨g, 0, none⟩) n c, u, v]) : Calls Tryz.prog 108 #[.pointer (some ⟨b, 0, none⟩)] w fun e w' => e = .returned (.int .i64 (n : Int)) ∧ w = w' := by
  go_enter Tryz.func108, Tryz.ntmps108
  go_wp2
  go_ret
  exact ⟨rfl, rfl⟩
theorem stAt (b g n c : Nat) (u v : Value) (i : Nat) (w : World) (h : Arr w b 150 [.slice (some ⟨g, 0, none⟩) n c, u, v]) (hi : i < n) : Calls Tryz.prog 102 #[.pointer (some ⟨b, 0, none⟩), .int .i64 (i : Int)] w fun e w' => e = .returned (.pointer (some ⟨g, i * 2, none⟩)) ∧ w = w' := by
  go_enter Tryz.func102, Tryz.ntmps102
  go_wp2_with (first | (go_at_call 108; refine (stLen b g n c u v _ h).mono ?_; rintro e w' ⟨rfl, rfl⟩))
  go_ret
  exact ⟨rfl, rfl⟩
set_option maxHeartbeats 1000000 in
theorem stGet (b g : Nat) (L : List (Nat × Nat)) (m : Int) (i : Nat) (w : World) (h : StL w b g L m) (hi : i < L.length) :
    Calls Tryz.prog 97 #[.pointer (some ⟨b, 0, none⟩), .int .i64 (i : Int)] w fun e w' => e = .returned (.tuple #[.int .u64 (if (gp L i).2 = 1 then ((gp L i).1 : Int) else 0), .bool (decide ((gp L i).2 = 1))]) ∧ Grows w w' := by
  have m0 := h.c0 hi
  have m1 := h.c1 hi
  have hr := h.row
  have HR := hide hr
  generalize gp L i = p at *
  obtain ⟨x, t⟩ := p
  dsimp only at *
  by_cases ht : t = 1
  · subst ht
    go_enter Tryz.func97, Tryz.ntmps97
    go_wp2_with (go_at_call 102; refine (stAt b g _ _ _ _ i _ HR.out hi).mono ?_; rintro e w' ⟨rfl, rfl⟩)
    ((first | refine wp_region_gen2 (by kernel_rfl) (by kernel_rfl) ?_ | refine wp_region_gen (by kernel_rfl) (by kernel_rfl) ?_); (repeat' ((first | refine gLex_val0 rfl (by kernel_rfl) (fun K hK => ?_) | refine gLex_undef rfl rfl rfl (by kernel_rfl) (fun K hK => ?_) | (refine gLex_ask rfl rfl rfl ?_; first | (apply gAsk_yes; kernel_rfl; intro K hK) | ((first | apply gAsk_no1 | apply gAsk_no2); kernel_rfl; intro K hK) | (apply gAsk_part; kernel_rfl; all_goals (intro h K hK; (try simp only [Bool.not_true] at h); (try simp only [Bool.not_false] at h); (try simp only [decide_eq_true_eq] at h); (try simp only [decide_eq_false_iff_not] at h); try (exfalso; first | contradiction | omega))))) <;> (go_simp; (try (simp only [↓IntWalk.iteOmega]; try go_simp)); (try simp (disch := omega) only [IntWalk.i64_in]); (try simp (disch := omega) only [IntWalk.u64_in]); refine hK _ ?_; clear hK K))); all_goals ((apply gLex_end); intro y))
    go_wp2_with fail
    go_ret2
    exact ⟨rfl, GG⟩
  · have hb : ((t : Int) == 1) = false := beq_eq_false_iff_ne.2 (by omega)
    have hb2 : ((t : Int) != 1) = true := by simp [bne, hb]
    have HT := hide ht
    clear ht
    go_enter Tryz.func97, Tryz.ntmps97
    go_wp2_with (go_at_call 102; refine (stAt b g _ _ _ _ i _ HR.out hi).mono ?_; rintro e w' ⟨rfl, rfl⟩)
    ((first | refine wp_region_gen2 (by kernel_rfl) (by kernel_rfl) ?_ | refine wp_region_gen (by kernel_rfl) (by kernel_rfl) ?_); (repeat' ((first | refine gLex_val0 rfl (by kernel_rfl) (fun K hK => ?_) | refine gLex_undef rfl rfl rfl (by kernel_rfl) (fun K hK => ?_) | (refine gLex_ask rfl rfl rfl ?_; first | (apply gAsk_yes; kernel_rfl; intro K hK) | ((first | apply gAsk_no1 | apply gAsk_no2); kernel_rfl; intro K hK) | (apply gAsk_part; kernel_rfl; all_goals (intro h K hK; (try simp only [Bool.not_true] at h); (try simp only [Bool.not_false] at h); (try simp only [decide_eq_true_eq] at h); (try simp only [decide_eq_false_iff_not] at h); try (exfalso; first | contradiction | omega))))) <;> (go_simp; (try (simp only [↓IntWalk.iteOmega]; try go_simp)); (try simp (disch := omega) only [IntWalk.i64_in]); (try simp (disch := omega) only [IntWalk.u64_in]); refine hK _ ?_; clear hK K))); all_goals ((apply gLex_end); intro y))
    go_wp2_with fail
    go_ret2
    refine ⟨?_, GG⟩
    simp
theorem StL.put {w W : World} {b g : Nat} {L : List (Nat × Nat)} {m : Int} (h : StL w b g L m) (hg : Grows w W) (i v : Nat) (hi : i < L.length) (m' : Int) :
    StL ((W.setCell ⟨g, i * 2, none⟩ (.int .u64 (v : Int))).setCell ⟨g, i * 2 + 1, none⟩ (.int .u64 1)) b g (L.set i (v, 1)) m ∧ StL (((W.setCell ⟨b, 2, none⟩ (.int .i64 m')).setCell ⟨g, i * 2, none⟩ (.int .u64 (v : Int))).setCell ⟨g, i * 2 + 1, none⟩ (.int .u64 1)) b g (L.set i (v, 1)) m' := by
  have hne := h.ne
  have e := scs_set L i (v, 1) hi
  have hl : (L.set i (v, 1)).length = L.length := List.length_set
  constructor
  · refine ⟨?_, ?_⟩
    · rw [hl]; exact ((h.row.grow hg).other hne _).other hne _
    · rw [hl, ← e]; exact ((h.cells.grow hg).set _ _).set _ _
  · refine ⟨?_, ?_⟩
    · rw [hl]; exact (((h.row.grow hg).set 2 _).other hne _).other hne _
    · rw [hl, ← e]; exact (((h.cells.grow hg).other (Ne.symm hne) _).set _ _).set _ _
set_option maxHeartbeats 2000000 in
theorem stPut (b g : Nat) (L : List (Nat × Nat)) (m : Int) (i v : Nat) (w : World) (h : StL w b g L m) (hi : i < L.length) :
    Calls Tryz.prog 98 #[.pointer (some ⟨b, 0, none⟩), .int .i64 (i : Int), .int .u64 (v : Int)] w fun e w' => e = .returned (.bool true) ∧ (∃ m', StL w' b g (L.set i (v, 1)) m') ∧ Touch (fun k => k = b ∨ k = g) w w' := by
  have m0 := h.c0 hi
  have m1 := h.c1 hi
  have HR := hide h.row
  have HH := hide h
  have hr := h.row
  have hne := h.ne
  clear h
  have HNE := hide hne
  generalize hp : gp L i = p at *
  obtain ⟨x, t⟩ := p
  dsimp only at *
  clear hp hne
  by_cases ht : t = 1
  · subst ht
    go_enter Tryz.func98, Tryz.ntmps98
    go_wp2_with (go_at_call 102; refine (stAt b g _ _ _ _ i _ HR.out hi).mono ?_; rintro e w' ⟨rfl, rfl⟩)
    ((first | refine wp_region_gen2 (by kernel_rfl) (by kernel_rfl) ?_ | refine wp_region_gen (by kernel_rfl) (by kernel_rfl) ?_); (repeat' ((first | refine gLex_val0 rfl (by kernel_rfl) (fun K hK => ?_) | refine gLex_undef rfl rfl rfl (by kernel_rfl) (fun K hK => ?_) | (refine gLex_ask rfl rfl rfl ?_; first | (apply gAsk_yes; kernel_rfl; intro K hK) | ((first | apply gAsk_no1 | apply gAsk_no2); kernel_rfl; intro K hK) | (apply gAsk_part; kernel_rfl; all_goals (intro h K hK; (try simp only [Bool.not_true] at h); (try simp only [Bool.not_false] at h); (try simp only [decide_eq_true_eq] at h); (try simp only [decide_eq_false_iff_not] at h); try (exfalso; first | contradiction | omega))))) <;> (go_simp; (try (simp only [↓IntWalk.iteOmega]; try go_simp)); (try simp (disch := omega) only [IntWalk.i64_in]); (try simp (disch := omega) only [IntWalk.u64_in]); refine hK _ ?_; clear hK K))); all_goals ((apply gLex_end); intro y))
    go_wp2_with fail
    have hgy : Grows w y.now := GG
    go_ret
    exact ⟨rfl, ⟨m, (HH.out.put hgy i v hi 0).1⟩, ((hgy.touch _).set (.inl (.inr rfl)) _).set (.inl (.inr rfl)) _⟩
  · have hb : ((t : Int) == 1) = false := beq_eq_false_iff_ne.2 (by omega)
    have hb2 : ((t : Int) != 1) = true := by simp [bne, hb]
    clear ht
    go_enter Tryz.func98, Tryz.ntmps98
    go_wp2_with (go_at_call 102; refine (stAt b g _ _ _ _ i _ HR.out hi).mono ?_; rintro e w' ⟨rfl, rfl⟩)
    ((first | refine wp_region_gen2 (by kernel_rfl) (by kernel_rfl) ?_ | refine wp_region_gen (by kernel_rfl) (by kernel_rfl) ?_); (repeat' ((first | refine gLex_val0 rfl (by kernel_rfl) (fun K hK => ?_) | refine gLex_undef rfl rfl rfl (by kernel_rfl) (fun K hK => ?_) | (refine gLex_ask rfl rfl rfl ?_; first | (apply gAsk_yes; kernel_rfl; intro K hK) | ((first | apply gAsk_no1 | apply gAsk_no2); kernel_rfl; intro K hK) | (apply gAsk_part; kernel_rfl; all_goals (intro h K hK; (try simp only [Bool.not_true] at h); (try simp only [Bool.not_false] at h); (try simp only [decide_eq_true_eq] at h); (try simp only [decide_eq_false_iff_not] at h); try (exfalso; first | contradiction | omega))))) <;> (go_simp; (try (simp only [↓IntWalk.iteOmega]; try go_simp)); (try simp (disch := omega) only [IntWalk.i64_in]); (try simp (disch := omega) only [IntWalk.u64_in]); refine hK _ ?_; clear hK K))); all_goals ((apply gLex_end); intro y))
    go_upto_region 6 with fail
    have hgy : Grows w y.now := GG
    have n0 : Mine (y.now.setCell ⟨b, 2, none⟩ (.int .i64 (wrap64 (m + 1)))) ⟨g, i * 2, none⟩ _ := Mine.set_other inferInstance _ (by intro e; injection e with e; exact HNE.out e.symm)
    have n1 : Mine (y.now.setCell ⟨b, 2, none⟩ (.int .i64 (wrap64 (m + 1)))) ⟨g, i * 2 + 1, none⟩ _ := Mine.set_other inferInstance _ (by intro e; injection e with e; exact HNE.out e.symm)
    have n2 : Mine (y.now.setCell ⟨b, 2, none⟩ (.int .i64 (wrap64 (m + 1)))) ⟨b, 1, none⟩ (.int .u64 1) := Mine.set_other inferInstance _ (by intro e; injection e with _ e; cases e)
    go_wp2_with fail
    go_ret
    exact ⟨rfl, ⟨_, (HH.out.put hgy i v hi _).2⟩, (((hgy.touch _).set (.inl (.inl rfl)) _).set (.inl (.inr rfl)) _).set (.inl (.inr rfl)) _⟩
def stD (L : List (Nat × Nat)) (i : Nat) : Option Nat := if (gp L i).2 = 1 then some (gp L i).1 else none
def lessB (o : Option Nat) (v : Nat) : Bool := match o with | none => true | some u => decide (v < u)
def GiveLeast (w : World) (b g : Nat) (L : List (Nat × Nat)) (i v : Nat) (r : Bool) (e : Ending) (w' : World) : Prop :=
  e = .returned (.bool r) ∧ (∃ m', StL w' b g (if r then L.set i (v, 1) else L) m') ∧ Touch (fun k => k = b ∨ k = g) w w'
set_option maxHeartbeats 2000000 in
theorem stLeast (b g : Nat) (L : List (Nat × Nat)) (m : Int) (i v : Nat) (w : World) (h : StL w b g L m) (hi : i < L.length) :
    Calls Tryz.prog 92 #[.pointer (some ⟨b, 0, none⟩), .int .i64 (i : Int), .int .u64 (v : Int)] w (GiveLeast w b g L i v (lessB (stD L i) v)) := by
  have HH := hide h
  have CG := hide (fun (W : World) (hg : Grows w W) => stGet b g L m i W (h.grow hg) hi)
  have CP := hide (fun (W : World) (hg : Grows w W) => stPut b g L m i v W (h.grow hg) hi)
  clear h
  unfold stD
  generalize hp : gp L i = p at *
  obtain ⟨x, t⟩ := p
  dsimp only at *
  clear hp
  by_cases ht : t = 1
  · subst ht
    by_cases hv : v < x
    · have hd : decide ((x : Int) ≤ (v : Int)) = false := decide_eq_false (by omega)
      have hd1 : decide (x ≤ v) = false := decide_eq_false (by omega)
      have HV : lessB (if (1 : Nat) = 1 then some x else none) v = true := decide_eq_true hv
      rw [HV]
      clear hv HV
      go_enter Tryz.func92, Tryz.ntmps92
      go_wp2_with (first
        | (go_at_call 97; refine (CG.out _ GG).mono ?_; rintro e w' ⟨rfl, hg⟩; obtain ⟨y, rfl⟩ := hg.later; clear hg)
        | (go_at_call 98; refine (CP.out _ GG).mono ?_; rintro e w' ⟨rfl, hs, ht⟩; have HS := hide hs; have HT := hide ht; clear hs ht))
      have hgy : Grows w y.now := GG
      go_ret
      exact ⟨rfl, HS.out, (hgy.touch _).trans HT.out⟩
    · have hd : decide ((x : Int) ≤ (v : Int)) = true := decide_eq_true (by omega)
      have hd1 : decide (x ≤ v) = true := decide_eq_true (by omega)
      have HV : lessB (if (1 : Nat) = 1 then some x else none) v = false := decide_eq_false hv
      rw [HV]
      clear hv HV
      go_enter Tryz.func92, Tryz.ntmps92
      go_wp2_with (first
        | (go_at_call 97; refine (CG.out _ GG).mono ?_; rintro e w' ⟨rfl, hg⟩; obtain ⟨y, rfl⟩ := hg.later; clear hg))
      have hgy : Grows w y.now := GG
      go_ret
      exact ⟨rfl, ⟨m, HH.out.grow hgy⟩, hgy.touch _⟩
  · rw [if_neg ht]
    have HV : lessB none v = true := rfl
    rw [HV]
    rw [if_neg ht, decide_eq_false ht] at CG
    clear ht HV
    go_enter Tryz.func92, Tryz.ntmps92
    go_wp2_with (first
      | (go_at_call 97; refine (CG.out _ GG).mono ?_; rintro e w' ⟨rfl, hg⟩; obtain ⟨y, rfl⟩ := hg.later; clear hg)
      | (go_at_call 98; refine (CP.out _ GG).mono ?_; rintro e w' ⟨rfl, hs, ht⟩; have HS := hide hs; have HT := hide ht; clear hs ht))
    have hgy : Grows w y.now := GG
    go_ret
    exact ⟨rfl, HS.out, (hgy.touch _).trans HT.out⟩
end Go.Proofs.YtkfobolbilhjbaaGreat

namespace Go.Proofs.YtkfobolbilhjbaaGreat
abbrev Itm := Nat × Nat
def gi2 (L : List Itm) (i : Nat) : Itm := L.getD i (0, 0)
def gz (T : List Int) (v : Nat) : Int := T.getD v 0
def ahead (a b : Itm) : Bool := decide (a.2 < b.2 ∨ a.2 = b.2 ∧ a.1 < b.1)
structure HS where
  L : List Itm
  T : List Int
def HS.lay (s : HS) (i : Nat) (x : Itm) : HS := ⟨s.L.set i x, s.T.set x.1 (i : Int)⟩
theorem HS.lay_len (s : HS) (i : Nat) (x : Itm) : (s.lay i x).L.length = s.L.length ∧ (s.lay i x).T.length = s.T.length := by simp [HS.lay]
def HS.rise (s : HS) (i : Nat) (x : Itm) : HS :=
  if _h : 0 < i ∧ ahead x (gi2 s.L ((i - 1) / 2)) = true then HS.rise (s.lay i (gi2 s.L ((i - 1) / 2))) ((i - 1) / 2) x else s.lay i x
termination_by i
decreasing_by omega
def HS.low (s : HS) (i : Nat) : Nat := if 2 * i + 1 + 1 < s.L.length ∧ ahead (gi2 s.L (2 * i + 1 + 1)) (gi2 s.L (2 * i + 1)) = true then 2 * i + 1 + 1 else 2 * i + 1
theorem HS.low_gt (s : HS) (i : Nat) : i < s.low i := by unfold HS.low; split <;> omega
def HS.sink (s : HS) (i : Nat) (x : Itm) : HS :=
  if _h : s.low i < s.L.length ∧ ahead (gi2 s.L (s.low i)) x = true then HS.sink (s.lay i (gi2 s.L (s.low i))) (s.low i) x else s.lay i x
termination_by s.L.length - i
decreasing_by
  have := HS.low_gt s i
  have := (HS.lay_len s i (gi2 s.L (s.low i))).1
  omega
def HS.put (s : HS) (v key : Nat) : HS × Bool :=
  if gz s.T v = -1 then (HS.rise ⟨s.L ++ [(v, key)], s.T⟩ s.L.length (v, key), true)
  else if (gi2 s.L (gz s.T v).toNat).2 ≤ key then (s, false) else (s.rise (gz s.T v).toNat (v, key), true)
def HS.drop (s : HS) (v : Nat) : HS :=
  let i := (gz s.T v).toNat
  let last := s.L.length - 1
  let x := gi2 s.L last
  let s1 : HS := ⟨s.L.take last, s.T.set v (-1)⟩
  if i = last then s1 else
    let s2 := s1.sink i x
    if gz s2.T x.1 = (i : Int) then s2.rise i x else s2
def HS.In (s : HS) (N : Nat) : Prop := s.T.length = N ∧ ∀ i, i < s.L.length → (gi2 s.L i).1 < N
theorem gi2_set (L : List Itm) (i j : Nat) (x : Itm) (hi : i < L.length) : gi2 (L.set i x) j = if j = i then x else gi2 L j := by
  unfold gi2
  by_cases h : j = i
  · subst h; simp [hi]
  · simp [h, Ne.symm h]
theorem HS.In.lay {s : HS} {N : Nat} (h : s.In N) (i : Nat) (x : Itm) (hx : x.1 < N) : (s.lay i x).In N := by
  refine ⟨by rw [(HS.lay_len s i x).2]; exact h.1, fun j hj => ?_⟩
  rw [(HS.lay_len s i x).1] at hj
  unfold HS.lay
  by_cases hi : i < s.L.length
  · rw [gi2_set _ _ _ _ hi]
    split
    · exact hx
    · exact h.2 j hj
  · have : s.L.set i x = s.L := List.set_eq_of_length_le (by omega)
    simp only [this]
    exact h.2 j hj
theorem HS.rise_in {s : HS} {N : Nat} (h : s.In N) (i : Nat) (x : Itm) (hx : x.1 < N) (hi : i < s.L.length) : (s.rise i x).In N := by
  induction i using Nat.strongRecOn generalizing s with
  | _ i ih =>
    rw [HS.rise]
    split
    · rename_i hc
      exact ih ((i - 1) / 2) (by omega) (h.lay i _ (h.2 _ (by omega))) (by rw [(HS.lay_len _ _ _).1]; omega)
    · exact h.lay i x hx
end Go.Proofs.YtkfobolbilhjbaaGreat

namespace Go.Proofs.YtkfobolbilhjbaaGreat
open Go Go.RowKit

def Yields' {α : Type} (J : List α → (Nat → Prop) → World → Prop) : Prop :=
  ∀ pre M W M' W', J pre M W → Touch M W W' → (∀ k, M' k → (M k ∨ W.heap.size ≤ k) ∧ k < W'.heap.size) → J pre M' W'

def Gives {α : Type} (P : Program) (g : Nat) (lb : Array Value) (encs : α → Array Value) (B M0 : Nat → Prop) (xs : List α) (w : World) : Prop :=
  ∀ (l : Nat) (J Jx : List α → (Nat → Prop) → World → Prop) (W : World), Keeps B M0 w W → Yields' J → Yields' Jx →
    (∀ pre x rest M W1, xs = pre ++ x :: rest → J pre M W1 → YieldAt Fence.wide 0 P l (encs x) W1 fun e W' =>
      (e = .returned (.bool true) ∧ J (pre ++ [x]) M W' ∧ Keeps B M W1 W') ∨ (e = .returned (.bool false) ∧ Jx (pre ++ [x]) M W' ∧ Keeps B M W1 W')) →
    J [] M0 W →
    CallsIn Fence.wide 0 P g (#[.func (.yield l) #[] #[]] ++ lb) W fun e W' => (∃ v, e = .returned v) ∧ ((∃ M, J xs M W') ∨ (∃ pre x rest M, xs = pre ++ x :: rest ∧ Jx (pre ++ [x]) M W'))

def roundEnd {α : Type} (B M : Nat → Prop) (I : List α → (Nat → Prop) → World → Prop) (Ix : Code → List α → (Nat → Prop) → World → Prop) (xs : List α) (W : World) : Exit → Act → World → Prop
  | .normal, _, W' => Keeps B M W W' ∧ I xs M W'
  | .ret, _, W' => Keeps B M W W' ∧ Ix .ret xs M W'
  | .exit id, _, W' => Keeps B M W W' ∧ Ix (.exit id) xs M W'
  | .goto t, _, W' => Keeps B M W W' ∧ Ix (.goto t) xs M W'
  | .panic _, _, _ => False
  | .outgrown, _, _ => False

def With2 (M : Nat → Prop) (d l : Nat) (k : Nat) : Prop := M k ∨ k = d ∨ k = l
def Book (M : Nat → Prop) (D l : Nat) (o : Obj) (W : World) : Prop :=
  W.heap[l]? = some o ∧ W.heap[D]? = some (.deferred (some [])) ∧ ¬ M l ∧ ¬ M D ∧ D ≠ l ∧ ∀ k, M k → k < W.heap.size

theorem Yields'.book {α : Type} {I : List α → (Nat → Prop) → World → Prop} (hI : Yields' I) (D l : Nat) (o : Obj) : Yields' (fun pre M W => I pre (With2 M D l) W ∧ Book M D l o W) := by
  rintro pre M W M' W' ⟨h1, h2, h3, h4, h5, h6, h7⟩ ht hM
  have l2 := (Array.getElem?_eq_some_iff.1 h2).1
  have l3 := (Array.getElem?_eq_some_iff.1 h3).1
  have hs := ht.size
  refine ⟨hI pre (With2 M D l) W (With2 M' D l) W' h1 (ht.mono fun k h => .inl h) (fun k hk => ?_), ht.at h4 h2, ht.at h5 h3, fun e => ?_, fun e => ?_, h6, fun k hk => (hM k hk).2⟩
  · rcases hk with hk | hk
    · obtain ⟨h6 | h6, h7⟩ := hM k hk
      · exact ⟨.inl (.inl h6), h7⟩
      · exact ⟨.inr h6, h7⟩
    · refine ⟨.inl (.inr hk), ?_⟩
      rcases hk with rfl | rfl <;> omega
  · rcases (hM _ e).1 with h | h
    · exact h4 h
    · omega
  · rcases (hM _ e).1 with h | h
    · exact h5 h
    · omega
theorem Yields'.ex {α β : Type} {J : β → List α → (Nat → Prop) → World → Prop} (h : ∀ c, Yields' (J c)) : Yields' (fun pre M W => ∃ c, J c pre M W) :=
  fun pre M W M' W' ⟨c, h1⟩ ht hM => ⟨c, h c pre M W M' W' h1 ht hM⟩
theorem Yields'.and {α : Type} {I J : List α → (Nat → Prop) → World → Prop} (h : Yields' I) (k : Yields' J) : Yields' (fun pre M W => I pre M W ∧ J pre M W) :=
  fun pre M W M' W' ⟨h1, h2⟩ ht hM => ⟨h pre M W M' W' h1 ht hM, k pre M W M' W' h2 ht hM⟩
theorem Book.turn {M : Nat → Prop} {D l : Nat} {o : Obj} {W : World} (h : Book M D l o W) (o' : Obj) : Book M D l o' (W.putObj l o') := by
  obtain ⟨h2, h3, h4, h5, h6, h7⟩ := h
  exact ⟨World.putObj_heap_same (Array.getElem?_eq_some_iff.1 h2).1, (World.putObj_heap_other h6).trans h3, h4, h5, h6, fun k hk => by simp; exact h7 k hk⟩
theorem Book.inv {α : Type} {M : Nat → Prop} {D l : Nat} {o : Obj} {W : World} (h : Book M D l o W) {I : List α → (Nat → Prop) → World → Prop} (hI : Yields' I) {pre : List α} (hi : I pre (With2 M D l) W) (o' : Obj) : I pre (With2 M D l) (W.putObj l o') := by
  obtain ⟨h2, h3, h4, h5, h6, h7⟩ := h
  have l2 := (Array.getElem?_eq_some_iff.1 h2).1
  have l3 := (Array.getElem?_eq_some_iff.1 h3).1
  refine hI pre _ W _ _ hi ((Touch.refl _ W).put (.inl (.inr (.inr rfl))) o') fun k hk => ⟨.inl hk, ?_⟩
  rw [World.putObj_size]
  rcases hk with hk | rfl | rfl
  · exact h7 k hk
  · exact l3
  · exact l2
theorem Book.keeps {M : Nat → Prop} {D l : Nat} {B : Nat → Prop} {o : Obj} {W W' : World} (h : Book M D l o W) (hk : Keeps B (With2 M D l) W W') : Book M D l o W' := by
  obtain ⟨h2, h3, h4, h5, h6, h7⟩ := h
  exact ⟨hk.at (.inr (.inr (.inr rfl))) h2, hk.at (.inr (.inr (.inl rfl))) h3, h4, h5, h6, fun k hk' => Nat.lt_of_lt_of_le (h7 k hk') hk.size⟩

section
variable {α : Type} {P : Program} {g : Operand} {ps : Array Tmp} {assign body : Code} {Q : Exit → Act → World → Prop} {a : Act} {w w0 : World}

theorem wp_rangeG {gf : Nat} {lb : Array Value} (hg : a.eval g = .func (.func gf) #[] lb) (eg : ∀ args w, (callFunc gf args).run P w = .ok (.enter gf args) w)
    {encs : α → Array Value} {B M0 : Nat → Prop} {xs : List α} (hseq : Gives P gf lb encs B M0 xs w0) (hw0 : Keeps B M0 w0 w) (hB : ∀ k, B k → k < w.heap.size) (hM0 : ∀ k, M0 k → k < w.heap.size)
    (hps : ∀ x, (encs x).size = ps.size) (I : List α → (Nat → Prop) → World → Prop) (Ix : Code → List α → (Nat → Prop) → World → Prop) (hI : Yields' I) (hIx : ∀ c, Yields' (Ix c))
    (h0 : I [] M0 w) (Ib : α → Act → List α → (Nat → Prop) → World → Prop) (hIb : ∀ x a, Yields' (Ib x a))
    (hassign : ∀ (l : Nat) (pre : List α) (x : α) (rest : List α) (M : Nat → Prop) (W : World), xs = pre ++ x :: rest → I pre M W →
      assign.wpIn (Fence.wide.inRound l) 0 P (Exit.then (fun a' W' => Ib x a' pre M W' ∧ Keeps B M W W') (fun _ _ _ => False)) { tmps := (ps.zip (encs x)).foldl (fun t (p, v) => t.setIfInBounds p v) a.tmps, defers := [] } W)
    (hbody : ∀ (l : Nat) (pre : List α) (x : α) (rest : List α) (M : Nat → Prop) (a' : Act) (W : World), xs = pre ++ x :: rest → w.heap.size ≤ l → M l → (∃ r, W.heap[l]? = some (.loop r)) → Ib x a' pre M W →
      body.wpIn (Fence.wide.inRound l) 0 P (roundEnd B M I Ix (pre ++ [x]) W) a' W)
    (hdone : ∀ (D : Nat) (M : Nat → Prop) (W : World), w.heap.size ≤ D → M D → I xs M W → W.heap[D]? = some (.deferred (some [])) → Q .normal { a with defers := { target := .collected D, args := #[] } :: a.defers } W)
    (hstop : ∀ (D : Nat) (c : Code) (pre : List α) (x : α) (rest : List α) (M : Nat → Prop) (W : World), w.heap.size ≤ D → M D → xs = pre ++ x :: rest → Ix c (pre ++ [x]) M W → W.heap[D]? = some (.deferred (some [])) →
      c.wpIn Fence.wide 0 P Q { a with defers := { target := .collected D, args := #[] } :: a.defers } W) :
    (Code.rangeFunc g ps assign body).wpIn Fence.wide 0 P Q a w := by
  refine wpIn_rangeFunc fun fn hfn => ?_
  obtain ⟨rec, hrec⟩ : ∃ rec : LoopState → Option Code → Loop, rec = fun st pe => { state := st, pending := pe, fn, tmps := a.tmps, params := ps, assign, body, defers := w.heap.size } := ⟨_, rfl⟩
  obtain ⟨W1, hW1⟩ : ∃ W1, (w.alloc (.deferred (some []))).alloc (.loop (rec .ready none)) = W1 := ⟨_, rfl⟩
  have hs1 : W1.heap.size = w.heap.size + 1 + 1 := by rw [← hW1]; simp
  have hg1 : Grows w W1 := by rw [← hW1]; exact ((Grows.refl w).new _).new _
  have hL1 : W1.heap[w.heap.size + 1]? = some (.loop (rec .ready none)) := by
    have := World.alloc_heap_new (w.alloc (.deferred (some []))) (.loop (rec .ready none))
    rw [World.size_alloc] at this
    rw [← hW1]; exact this
  have hK1 : W1.heap[w.heap.size]? = some (.deferred (some [])) := by
    rw [← hW1]; exact (Below.heap_alloc _ _ _ (by simp)).trans (World.alloc_heap_new w _)
  have hB1 : Book M0 w.heap.size (w.heap.size + 1) (.loop (rec .ready none)) W1 :=
    ⟨hL1, hK1, fun e => by have := hM0 _ e; omega, fun e => by have := hM0 _ e; omega, by omega, fun k hk => by have := hM0 k hk; omega⟩
  have hI1 : I [] (With2 M0 w.heap.size (w.heap.size + 1)) W1 := by
    refine hI [] M0 w _ W1 h0 (hg1.touch _) fun k hk => ?_
    rcases hk with hk | rfl | rfl
    · exact ⟨.inl hk, by have := hM0 k hk; omega⟩
    · exact ⟨.inr (Nat.le_refl _), by omega⟩
    · exact ⟨.inr (by omega), by omega⟩
  refine ⟨w.heap.size + 1, [{ target := .collected w.heap.size, args := #[] }], W1, { target := .fn (.func gf) lb, args := #[.func (.yield (w.heap.size + 1)) #[] #[]] }, W1, gf,
    #[.func (.yield (w.heap.size + 1)) #[] #[]] ++ lb, W1, ?_, ?_, fun _ _ => trivial, ?_, fun h => by simp [Fence.wide] at h, ?_⟩
  · rw [← hW1, hrec]; exact run_enterLoop_outer _ _ _ _ _
  · simp only [resolve, hg]
    simp [go_sem]
  · simp [invoke, go_sem, eg]
  · obtain ⟨D, hD⟩ : ∃ D, w.heap.size = D := ⟨_, rfl⟩
    obtain ⟨l, hl⟩ : ∃ l, D + 1 = l := ⟨_, rfl⟩
    rw [hD, hl] at hB1 hI1
    rw [hD, hl]
    have hnl : ¬ B l := fun e => by have := hB l e; omega
    refine (hseq l (fun pre M W => I pre (With2 M D l) W ∧ Book M D l (.loop (rec .ready none)) W) (fun pre M W => ∃ c, Ix c pre (With2 M D l) W ∧ Book M D l (.loop (rec .done (some c))) W)
      W1 (hw0.trans (hg1.touch _)) (hI.book _ _ _) (Yields'.ex fun c => (hIx c).book _ _ _) ?_ ⟨hI1, hB1⟩).mono ?_
    · rintro pre x rest M W hx ⟨hi, hb⟩
      have hy := run_yield (P := P) (args := encs x) hb.1 (by rw [hrec]; exact hps x)
      rw [hrec] at hy
      refine ⟨fn, _, assign, body, hy, roundIn_of_wpIn hfn ?_⟩
      clear hy
      refine wpIn_mono (hassign l pre x rest (With2 M D l) W hx hi) ?_
      rintro e a2 W2 hp
      cases e <;> first | exact hp.elim | skip
      obtain ⟨hib, hk2⟩ := hp
      have hb2 := hb.keeps hk2
      refine ⟨_, run_beginRound hb2.1 (by rw [hrec]), ?_⟩
      have hb3 := hb2.turn (.loop { rec .ready none with state := .busy })
      have hi3 := hb2.inv (hIb x a2) hib (.loop { rec .ready none with state := .busy })
      refine wpIn_mono (hbody l pre x rest (With2 M D l) a2 _ hx (by omega) (.inr (.inr rfl)) ⟨_, hb3.1⟩ hi3) ?_
      have hkA : Keeps B M W (W2.putObj l (.loop { rec .ready none with state := .busy })) :=
        Touch.put (hk2.mono fun k h => .inl h) (.inl (fun e => e.elim hnl hb2.2.2.1)) _
      have fin : ∀ (jump : Option Code) (W4 : World), Keeps B (With2 M D l) (W2.putObj l (.loop { rec .ready none with state := .busy })) W4 →
          (Instr.endRound l jump).run P W4 = .ok (.bool jump.isNone) (W4.putObj l (.loop (rec (if jump.isNone then .ready else .done) jump))) ∧ Book M D l (.loop { rec .ready none with state := .busy }) W4 := fun jump W4 hk4 => by
        have hb4 := hb3.keeps hk4
        have := run_endRound (P := P) jump hb4.1
        rw [hrec] at this ⊢
        exact ⟨this, by rw [hrec] at hb4; exact hb4⟩
      rintro e a3 W4 hp
      cases e with
      | normal =>
        obtain ⟨hk4, hi4⟩ := hp
        obtain ⟨hr, hb4⟩ := fin none W4 hk4
        exact ⟨_, _, hr, .inl ⟨rfl, ⟨hb4.inv hI hi4 _, hb4.turn _⟩, Touch.put (hkA.trans (hk4.mono fun k h => .inl h)) (.inl (fun e => e.elim hnl hb4.2.2.1)) _⟩⟩
      | ret =>
        obtain ⟨hk4, hi4⟩ := hp
        obtain ⟨hr, hb4⟩ := fin (some .ret) W4 hk4
        exact ⟨_, _, hr, .inr ⟨rfl, ⟨.ret, hb4.inv (hIx _) hi4 _, hb4.turn _⟩, Touch.put (hkA.trans (hk4.mono fun k h => .inl h)) (.inl (fun e => e.elim hnl hb4.2.2.1)) _⟩⟩
      | exit id =>
        obtain ⟨hk4, hi4⟩ := hp
        obtain ⟨hr, hb4⟩ := fin (some (.exit id)) W4 hk4
        exact ⟨_, _, hr, .inr ⟨rfl, ⟨.exit id, hb4.inv (hIx _) hi4 _, hb4.turn _⟩, Touch.put (hkA.trans (hk4.mono fun k h => .inl h)) (.inl (fun e => e.elim hnl hb4.2.2.1)) _⟩⟩
      | goto t =>
        obtain ⟨hk4, hi4⟩ := hp
        obtain ⟨hr, hb4⟩ := fin (some (.goto t)) W4 hk4
        exact ⟨_, _, hr, .inr ⟨rfl, ⟨.goto t, hb4.inv (hIx _) hi4 _, hb4.turn _⟩, Touch.put (hkA.trans (hk4.mono fun k h => .inl h)) (.inl (fun e => e.elim hnl hb4.2.2.1)) _⟩⟩
      | panic ch => exact hp.elim
      | outgrown => exact hp.elim
    · rintro e W2 ⟨⟨v, rfl⟩, (⟨M, hi, hb⟩ | ⟨pre, x, rest, M, hx, c, hi, hb⟩)⟩
      · have he := run_endLoop (P := P) hb.1 (by rw [hrec]; simp)
        refine ⟨_, _, he, ?_⟩
        rw [show (rec .ready none).pending = none by rw [hrec]]
        exact hdone D _ _ (by omega) (.inr (.inl rfl)) (hb.inv hI hi _) (hb.turn _).2.1
      · have he := run_endLoop (P := P) hb.1 (by rw [hrec]; simp)
        refine ⟨_, _, he, ?_⟩
        rw [show (rec .done (some c)).pending = some c by rw [hrec]]
        exact hstop D c pre x rest _ _ (by omega) (.inr (.inl rfl)) hx (hb.inv (hIx c) hi _) (hb.turn _).2.1
end
end Go.Proofs.YtkfobolbilhjbaaGreat

namespace Go.Proofs.YtkfobolbilhjbaaGreat
open Go Go.RowKit

theorem least {p : Nat → Prop} (h : ∃ m, p m) : ∃ m, p m ∧ ∀ k, p k → m ≤ k := by
  obtain ⟨m, hm⟩ := h
  induction m using Nat.strongRecOn with
  | _ m ih =>
    by_cases hk : ∃ k, k < m ∧ p k
    · obtain ⟨k, h1, h2⟩ := hk
      exact ih k h1 h2
    · exact ⟨m, hm, fun k hp => Nat.le_of_not_lt fun h => hk ⟨k, h, hp⟩⟩
theorem least_fn (Inv : Nat → Act → World → Prop) : ∃ μ : Act → World → Nat, ∀ a w, (∃ m, Inv m a w) → Inv (μ a w) a w ∧ ∀ k, Inv k a w → μ a w ≤ k := by
  have h : ∀ a w, ∃ m, (∃ m, Inv m a w) → Inv m a w ∧ ∀ k, Inv k a w → m ≤ k := fun a w => by
    by_cases he : ∃ m, Inv m a w
    · obtain ⟨m, hm⟩ := least he
      exact ⟨m, fun _ => hm⟩
    · exact ⟨0, fun h => absurd h he⟩
  exact ⟨fun a w => Classical.choose (h a w), fun a w => Classical.choose_spec (h a w)⟩
theorem wp_loop_m {P : Program} {c : Code} {Q : Exit → Act → World → Prop} {a : Act} {w : World} (Inv : Nat → Act → World → Prop) (h0 : ∃ m, Inv m a w)
    (hr : ∀ m a w, Inv m a w → c.wp P (Exit.then (fun a' w' => ∃ m', m' < m ∧ Inv m' a' w') Q) a w) : (Code.loop c).wp P Q a w := by
  obtain ⟨μ, hμ⟩ := least_fn Inv
  refine wp_loop (fun a w => ∃ m, Inv m a w) μ h0 fun a w h => ?_
  refine wp_mono (hr _ a w (hμ a w h).1) fun e a' w' hq => ?_
  cases e <;> first | exact hq | skip
  obtain ⟨m', h1, h2⟩ := hq
  exact ⟨⟨m', h2⟩, Nat.lt_of_le_of_lt ((hμ a' w' ⟨m', h2⟩).2 m' h2) h1⟩

def marks (Ds : List Nat) : List Deferred := Ds.map fun D => { target := .collected D, args := #[] }
def Marks (Ds : List Nat) (W : World) : Prop := Ds.Nodup ∧ ∀ D ∈ Ds, W.heap[D]? = some (.deferred (some []))
theorem Marks.nil (W : World) : Marks [] W := ⟨List.nodup_nil, fun D h => by cases h⟩
theorem Marks.touch {Ds : List Nat} {W W' : World} {S : Nat → Prop} (h : Marks Ds W) (ht : Touch S W W') (hs : ∀ D ∈ Ds, ¬ S D) : Marks Ds W' := ⟨h.1, fun D hD => ht.at (hs D hD) (h.2 D hD)⟩
theorem Marks.keeps {Ds : List Nat} {W W' : World} {B M : Nat → Prop} (h : Marks Ds W) (ht : Keeps B M W W') (hs : ∀ D ∈ Ds, M D) : Marks Ds W' := ⟨h.1, fun D hD => ht.at (.inr (hs D hD)) (h.2 D hD)⟩
theorem Marks.cons {Ds : List Nat} {W : World} {D : Nat} (h : Marks Ds W) (hD : W.heap[D]? = some (.deferred (some []))) (hn : D ∉ Ds) : Marks (D :: Ds) W :=
  ⟨List.nodup_cons.2 ⟨hn, h.1⟩, fun E hE => by
    rcases List.mem_cons.1 hE with rfl | hE
    · exact hD
    · exact h.2 E hE⟩
theorem marks_leave {F : Fence} {n : Nat} {P : Program} {fn : Func} {tmps : Array Value} {R : Ending → World → Prop} : ∀ (Ds : List Nat) (W : World), Marks Ds W →
    (∀ W', Touch (fun k => k ∈ Ds) W W' → ∃ v, (results fn tmps).run P W' = .ok v W' ∧ R (.returned v) W') → LeavesInM F n P fn tmps R (marks Ds) .returning W
  | [], W, _, h => h W (Touch.refl _ _)
  | D :: Ds, W, hM, h => by
    have hnd := List.nodup_cons.1 hM.1
    have hk := hM.2 D (by simp)
    refine ⟨by simp, .inl ⟨D, _, rfl, run_takeDeferred hk, ?_⟩⟩
    refine marks_leave Ds _ ⟨hnd.2, fun E hE => ?_⟩ fun W' ht => h W' ?_
    · rw [World.putObj_heap_other (fun e => by subst e; exact hnd.1 hE)]
      exact hM.2 E (by simp [hE])
    · exact ((Touch.refl _ W).put (.inl (by simp)) _).trans2 ht fun k hk => .inl (by simp [hk])
theorem marks_ret {n : Nat} {P : Program} {fn : Func} {R : Ending → World → Prop} {a : Act} {W : World} (Ds : List Nat) (hd : a.defers = marks Ds) (hM : Marks Ds W)
    (h : ∀ W', Touch (fun k => k ∈ Ds) W W' → ∃ v, (results fn a.tmps).run P W' = .ok v W' ∧ R (.returned v) W') : bodyPostM Fence.wide n P fn R .ret a W := by
  show LeavesInM _ _ _ _ _ _ a.defers _ _
  rw [hd]
  exact marks_leave Ds W hM h
theorem marks_end {n : Nat} {P : Program} {fn : Func} {R : Ending → World → Prop} {a : Act} {W : World} (Ds : List Nat) (hd : a.defers = marks Ds) (hM : Marks Ds W)
    (h : ∀ W', Touch (fun k => k ∈ Ds) W W' → ∃ v, (results fn a.tmps).run P W' = .ok v W' ∧ R (.returned v) W') : bodyPostM Fence.wide n P fn R .normal a W := by
  show LeavesInM _ _ _ _ _ _ a.defers _ _
  rw [hd]
  exact marks_leave Ds W hM h
theorem calls_of_marks {P : Program} {f : FuncId} {fn : Func} {c : Code} {args : Array Value} {w : World} {R : Ending → World → Prop} (hf : P.funcs[f]? = some fn) (hb : fn.body = some c)
    (h : c.wp P (bodyPostM Fence.wide 0 P fn R) { tmps := args ++ Array.replicate (fn.ntmps - args.size) undef, defers := [] } w) : Calls P f args w R :=
  callsIn_wide.1 (callsIn_of_wp_marks (n := 0) hf hb trivial (wpIn_wide.2 h) rfl)
end Go.Proofs.YtkfobolbilhjbaaGreat

