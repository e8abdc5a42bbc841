/- Contract: a hierarchy, looked up, is made. -/
import Derived.Test.YtgplpgldhoelcaaQChangeAgain17
import Derived.Test.YtgplpgldhoelcaaQChangeAgain18
namespace Go.Proofs.Ytgplpgldhoelcaa
open Go Go.RowKit
attribute [local go_sem] Oper.semAt_some
theorem run_app_full (w : World) {t e : TypeId} (T : Elem t e 1) (ty : TypeId) (A : Option Addr) (n : Nat) (xs : List Value) (hr : Rd w A 1 n xs) (hnil : A = none → n = 0) (g c' : Nat) (v : Value) (hv : Holds w ⟨g, 0, none⟩ v) (h1 : v.oneCell' = true) (hnm : n + 1 ≤ 1000000000000) :
    ∃ A' c'' w', (Builtin.append_ #[t, t] ty #[.slice A n n, .slice (some ⟨g, 0, none⟩) 1 c']).run Try.prog w = .ok (.slice A' (n + 1) c'') w' ∧ Own w' w.heap.size e 1 A' (n + 1) c'' (xs ++ [v]) ∧ Grows w w' := by
  obtain ⟨i, z, bytes, hi, hz, hsz, hby, hzs, hb64⟩ := T.info
  have hnews : ∀ j u, [v][j]? = some u → w.cell? ((⟨g, 0, none⟩ : Addr).add j) = some u := fun j u hu => by
    have hj : j = 0 := by
      have := (List.getElem?_eq_some_iff.1 hu).1
      simpa using this
    subst hj
    simp at hu
    subst hu
    simpa [Addr.add] using hv.cell
  cases A with
  | none =>
    have h0 := hnil rfl
    subst h0
    have hx : xs = [] := List.eq_nil_of_length_eq_zero (by simpa using hr.1)
    subst hx
    obtain ⟨v', w', hrun, hown, hgr, _, _⟩ := run_append_own_at (P := Try.prog) w w.heap.size t ty e i z 1 bytes T.under hi hz hsz hby hzs T.pos (.slice none 0 0) 0 [] (World.ownsRow_nil _ _ _ _) ⟨g, 0, none⟩ 1 c' [v] rfl hnews (by intro u hu; simp at hu; rw [hu]; exact h1) (by unfold maxLen; omega) (Nat.le_trans (Nat.mul_le_mul hnm hb64) (by omega)) (Nat.le_refl _)
    obtain ⟨A', c'', rfl⟩ := own_form hown
    exact ⟨A', c'', w', by rw [hrun], (by have := hown; rw [Nat.zero_add, List.nil_append] at this ⊢; exact this), ⟨hgr.os, hgr.tape, hgr.output, hgr.size, fun k hk => hgr.block k hk (by simp [Value.ownBlock])⟩⟩
  | some p =>
    have hsz1 : i.size = 1 := hsz
    have hrun := run_append_grow (P := Try.prog) w t ty e i z T.under hi hz p n n xs (by rw [hsz1]; exact hr.1) (fun j u hu => by
      have hl := hr.1
      have hj := (List.getElem?_eq_some_iff.1 hu).1
      obtain ⟨b, off, he, hc⟩ := hr.2 (by omega) (by omega)
      have hp : p = ⟨b, off, none⟩ := Option.some.inj he
      rw [hp, add_pl2]
      exact hc j u hu) ⟨g, 0, none⟩ 1 c' [v] (by rw [hsz1]; rfl) hnews (by omega) (by omega) (growslice_fits (by omega) (by rw [hby]; exact Nat.le_trans (Nat.mul_le_mul hnm hb64) (by omega)))
    refine ⟨_, _, _, hrun, ?_, ⟨rfl, rfl, rfl, by simp, fun k hk => heap_alloc_old w.drew _ hk⟩⟩
    have hge := grownCap_ge w (n + 1) n e
    have hcm : grownCap w (n + 1) n e ≤ maxLen := grownCap_le_maxLen w (n + 1) n e (by unfold maxLen; omega)
    have hlen : (xs ++ [v]).length = (n + 1) * 1 := by rw [List.length_append, hr.1]; rfl
    refine ⟨hlen, .inr ⟨w.heap.size, _, _, rfl, Nat.le_refl _, heap_alloc_new w.drew _, hge, hcm, ?_, ?_⟩⟩
    · simp only [Array.size_append, List.size_toArray, size_zeroCells, hzs, hr.1, List.length_cons, List.length_nil]
      omega
    · simp only [Array.toList_append, List.append_assoc]
      rw [← List.append_assoc, ← hlen]
      exact List.take_left
section
variable {w : World} {e : TypeId} {ops : Array Oper} {rest : List Oper} {o : Oper} {a : Act} {Q : Exit → Act → World → Prop}
theorem wp_appF {t : TypeId} (E : Elem t e 1) (hgd : o.guard = none) (s x : Operand) (ho : o.op = .call { callee := .builtin .append, args := #[s, x], argTypes := #[t, t] })
    (n : Nat) (A : Option Addr) (xs : List Value) (hs : a.eval s = .slice A n n) (hr : Rd w A 1 n xs) (hnil : A = none → n = 0) (g c' : Nat) (v : Value) (hx : a.eval x = .slice (some ⟨g, 0, none⟩) 1 c')
    (hv : Holds w ⟨g, 0, none⟩ v) (h1 : v.oneCell' = true) (hnm : n + 1 ≤ 1000000000000)
    (h : ∀ A' c'' (y : Later w), Own y.now w.heap.size e 1 A' (n + 1) c'' (xs ++ [v]) → wpList Try.prog ops Q rest (a.put o.dst (.slice A' (n + 1) c'')) y.now) :
    wpList Try.prog ops Q (o :: rest) a w := by
  refine wpList_plain hgd fun K hK => ?_
  obtain ⟨A', c'', w', hrun, hown, hg⟩ := run_app_full w E o.type A n xs hr hnil g c' v hv h1 hnm
  unfold Oper.wp execOp
  simp only [ho, resolve, invoke, builtin, Sem.run_bind, Sem.run_pure, Result.andThen_ok, List.map_toArray, List.map_cons, List.map_nil, hs, hx, hrun]
  exact hK _ _ (h A' c'' ⟨w', hg⟩ hown)
end
theorem Own.capH {w : World} {B n c size : Nat} {e : TypeId} {A : Option Addr} {xs : List Value} (h : Own w B e size A n c xs) : n ≤ c := by
  rcases h.2 with ⟨h1, h2⟩ | ⟨g', cap, cur, h1, _, _, h4, _⟩
  · omega
  · injection h1 with h1 _ h5
    omega
theorem Own.nilH {w : World} {B n c size : Nat} {e : TypeId} {A : Option Addr} {xs : List Value} (h : Own w B e size A n c xs) (ha : A = none) : n = 0 := by
  rcases h.2 with ⟨h1, h2⟩ | ⟨g', cap, cur, h1, _⟩
  · exact h2
  · rw [ha] at h1
    injection h1 with h1 _ _
    cases h1
def upB (r : List Nat) (S : List SI) (back : Bool) (v i : Nat) : Bool :=
  if back = true then decide ((gsi S i).t = (v : Int)) && decide (gn r (gsi S i).t.toNat < gn r (gsi S i).f.toNat) else decide ((gsi S i).f = (v : Int)) && !decide (gn r (gsi S i).t.toNat < gn r (gsi S i).f.toNat)
def upL (r : List Nat) (S : List SI) (back : Bool) (v k : Nat) : List Nat := (List.range k).filter (upB r S back v)
theorem upL_yes {r : List Nat} {S : List SI} {back : Bool} {v k : Nat} (h : upB r S back v k = true) : upL r S back v (k + 1) = upL r S back v k ++ [k] := by
  unfold upL
  rw [List.range_succ, List.filter_append, List.filter_cons_of_pos h]
  rfl
theorem upL_no {r : List Nat} {S : List SI} {back : Bool} {v k : Nat} (h : upB r S back v k = false) : upL r S back v (k + 1) = upL r S back v k := by
  unfold upL
  rw [List.range_succ, List.filter_append, List.filter_cons_of_neg (by rw [h]; exact Bool.false_ne_true)]
  simp
theorem upL_len (r : List Nat) (S : List SI) (back : Bool) (v k : Nat) : (upL r S back v k).length ≤ k := by
  have := List.length_filter_le (upB r S back v) (List.range k)
  simpa [upL] using this
theorem run_makeIntss (n : Nat) (hn : n ≤ 1000000000) (w : World) : (Instr.makeSlice 111 (.int .i64 (n : Int)) (.int .i64 (n : Int))).run Try.prog w = .ok (.slice (some ⟨w.heap.size, 0, none⟩) n n) (w.alloc (.cells (List.replicate n (Value.slice none 0 0)).toArray 29)) := by
  have h : (Try.prog.info? 29).map (fun i => (i.zero, i.size, i.bytes)) = some (some (.slice none 0 0), 1, 24) := by kernel_rfl
  obtain ⟨i, h1, h2, h3, h4⟩ := info_parts h
  have := run_make_row (P := Try.prog) 111 29 i (.slice none 0 0) Try.underlying111 h1 h2 h3 rfl .i64 .i64 n (by rw [h4]; omega) (by omega) w
  have e : madeCells #[Value.slice none 0 0] n = (List.replicate n (Value.slice none 0 0)).toArray := Array.ext' (by rw [toList_madeCells_one])
  rw [e] at this
  exact this
def HiRows (w : World) (g N : Nat) (F : Nat → List Nat) : Prop :=
  ∃ (Af : Nat → Option Addr) (cf : Nat → Nat), Arr w g 29 ((List.range N).map fun v => .slice (Af v) (F v).length (cf v)) ∧ ∀ v, v < N → Own w 0 3 1 (Af v) (F v).length (cf v) (nv (F v))
theorem HiRows.grow {w w' : World} {g N : Nat} {F : Nat → List Nat} (h : HiRows w g N F) (hg : Grows w w') : HiRows w' g N F := by
  obtain ⟨Af, cf, h1, h2⟩ := h
  exact ⟨Af, cf, h1.grow hg, fun v hv => (h2 v hv).grows hg⟩
theorem HiRows.other {w : World} {g g2 N v : Nat} {F : Nat → List Nat} {cs : List Value} (h : HiRows w g N F) (k : Arr w g2 29 cs) (hne : g2 ≠ g) (u : Value) : HiRows (w.setCell ⟨g2, v, none⟩ u) g N F := by
  obtain ⟨Af, cf, h1, h2⟩ := h
  exact ⟨Af, cf, h1.other (p := ⟨g2, v, none⟩) hne u, fun x hx => (h2 x hx).touch ((Touch.refl (fun k => k = g2) w).set (p := ⟨g2, v, none⟩) (.inl rfl) u) ((h2 x hx).not_arr k (by decide))⟩
theorem HiRows.put {w : World} {g N v c : Nat} {A : Option Addr} {F : Nat → List Nat} {l : List Nat} (h : HiRows w g N F) (hv : v < N) (ho : Own w 0 3 1 A l.length c (nv l)) : HiRows (w.setCell ⟨g, v, none⟩ (.slice A l.length c)) g N (fun x => if x = v then l else F x) := by
  obtain ⟨Af, cf, h1, h2⟩ := h
  have ht : Touch (fun k => k = g) w (w.setCell ⟨g, v, none⟩ (.slice A l.length c)) := (Touch.refl (fun k => k = g) w).set (p := ⟨g, v, none⟩) (.inl rfl) _
  refine ⟨fun x => if x = v then A else Af x, fun x => if x = v then c else cf x, ?_, fun x hx => ?_⟩
  · have := h1.set v (.slice A l.length c)
    have e : ((List.range N).map fun v => Value.slice (Af v) (F v).length (cf v)).set v (.slice A l.length c) = (List.range N).map fun x => Value.slice (if x = v then A else Af x) (if x = v then l else F x).length (if x = v then c else cf x) := by
      apply List.ext_getElem?
      intro x
      rw [List.getElem?_set]
      by_cases e : v = x
      · subst e
        simp [hv]
      · by_cases hx : x < N
        · simp [e, Ne.symm e, hx]
        · simp [e, hx]
    rw [e] at this
    exact this
  · by_cases e : x = v
    · subst e
      simp only [if_pos]
      exact ho.touch ht (ho.not_arr h1 (by decide))
    · simp only [if_neg e]
      exact (h2 x hx).touch ht ((h2 x hx).not_arr h1 (by decide))
theorem HiRows.start {w : World} {g N : Nat} (h : Arr w g 29 (List.replicate N (.slice none 0 0))) : HiRows w g N (fun _ => []) := by
  refine ⟨fun _ => none, fun _ => 0, ?_, fun v hv => Own.nil _ _ _ _⟩
  have e : ((List.range N).map fun _ => Value.slice none 0 0) = List.replicate N (.slice none 0 0) := by
    apply List.ext_getElem?
    intro x
    by_cases hx : x < N
    · simp [hx]
    · simp [hx]
  rw [← e] at h
  exact h
theorem HiRows.row {w : World} {g N v : Nat} {F : Nat → List Nat} (h : HiRows w g N F) (hv : v < N) : ∃ A c, Mine w ⟨g, v, none⟩ (.slice A (F v).length c) ∧ Own w 0 3 1 A (F v).length c (nv (F v)) := by
  obtain ⟨Af, cf, h1, h2⟩ := h
  exact ⟨Af v, cf v, h1.mine v (by simp [hv]), h2 v hv⟩
theorem HiRows.congr {w : World} {g N : Nat} {F F' : Nat → List Nat} (h : HiRows w g N F) (he : ∀ v, v < N → F v = F' v) : HiRows w g N F' := by
  obtain ⟨Af, cf, h1, h2⟩ := h
  refine ⟨Af, cf, ?_, fun v hv => by rw [← he v hv]; exact h2 v hv⟩
  have e : ((List.range N).map fun v => Value.slice (Af v) (F v).length (cf v)) = (List.range N).map fun v => Value.slice (Af v) (F' v).length (cf v) := List.map_congr_left fun v hv => by rw [he v (List.mem_range.1 hv)]
  rw [← e]
  exact h1
theorem HiRows.arr {w : World} {g N : Nat} {F : Nat → List Nat} (h : HiRows w g N F) : ∃ cs, Arr w g 29 cs := by
  obtain ⟨Af, cf, h1, h2⟩ := h
  exact ⟨_, h1⟩
def HiAt (w : World) (b N : Nat) (E : List Edg) (r : List Nat) (S : List SI) : Prop :=
  ∃ (A : Option Addr) (c : Nat) (B : Option Addr) (d : Nat) (A2 : Option Addr) (c2 go gi_ : Nat), Arr w b 113 [.int .i64 (N : Int), .slice A E.length c, .slice B N d, .slice A2 S.length c2, .slice (some ⟨go, 0, none⟩) N N, .slice (some ⟨gi_, 0, none⟩) N N] ∧
    Rd w A 3 E.length (esCells E) ∧ Rd w B 1 N (nv r) ∧ Rd w A2 6 S.length (sis S) ∧ S.length ≤ c2 ∧ HiRows w go N (fun v => upL r S false v S.length) ∧ HiRows w gi_ N (fun v => upL r S true v S.length) ∧
    Own w 0 93 3 A E.length c (esCells E) ∧ Own w 0 3 1 B N d (nv r) ∧ Own w 0 95 6 A2 S.length c2 (sis S)
theorem HiAt.grow {w w' : World} {b N : Nat} {E : List Edg} {r : List Nat} {S : List SI} (h : HiAt w b N E r S) (hg : Grows w w') : HiAt w' b N E r S := by
  obtain ⟨A, c, B, d, A2, c2, go, gi_, h1, h2, h3, h4, h5, h6, h7, h8, h9, h10⟩ := h
  exact ⟨A, c, B, d, A2, c2, go, gi_, h1.grow hg, h2.grows hg, h3.grows hg, h4.grows hg, h5, h6.grow hg, h7.grow hg, h8.grows hg, h9.grows hg, h10.grows hg⟩
structure HnC where
  Ag : Option Addr
  cg : Nat
  Br : Option Addr
  dr : Nat
  As : Option Addr
  cs : Nat
  go : Nat
  gi_ : Nat
  b : Nat
def GiveHi (w : World) (N : Nat) (E : List Edg) (r : List Nat) (S : List SI) (e : Ending) (w' : World) : Prop :=
  ∃ b, e = .returned (.tuple #[.pointer (some ⟨b, 0, none⟩), .int .i64 0]) ∧ HiAt w' b N E r S ∧ Grows w w'
set_option maxRecDepth 40000 in
set_option maxHeartbeats 8000000 in
theorem hiNew (N : Nat) (A : Option Addr) (c : Nat) (E : List Edg) (B : Option Addr) (d : Nat) (r : List Nat) (A2 : Option Addr) (c2 : Nat) (S : List SI) (w : World) (h : Rd w A 3 E.length (esCells E)) (hok : rightF N E = 0) (hr : Rd w B 1 N (nv r)) (hS : Rd w A2 6 S.length (sis S)) (hsl : S.length ≤ 1000000) (hcap : S.length ≤ c2) (hmade : madeSB N E (nvI r) S = true) :
    Calls Try.prog 40 #[.agg #[.int .i64 (N : Int), .slice A E.length c], .agg #[.slice B N d, .slice A2 S.length c2]] w (GiveHi w N E r S) := by
  have hN : N ≤ 4096 := by have := (right_in hok).2.1; omega
  have hEl : E.length ≤ 1000000 := by have := (right_in hok).2.2.1; omega
  have hrl : r.length = N := by have := hr.len; simpa [nv] using this
  have CM := hide (fun (W : World) (g : Grows w W) => by
    have := hiMade N A E.length c E B N d (nvI r) A2 S.length c2 S W (h.grows g) hEl (by rw [← nvI_vals]; exact hr.grows g) (by omega) (hS.grows g) hsl hcap
    rw [madeSB_hmR hok hmade] at this
    exact this)
  have CG := hide (fun (W : World) (g : Grows w W) => gClone N A E.length c E W (h.grows g) hEl)
  have CH := hide (fun (W : World) (g : Grows w W) => hiClone B N d (nvI r) A2 S.length c2 S W (by rw [← nvI_vals]; exact hr.grows g) (by omega) (hS.grows g) hsl)
  have HME := hide (show ∀ i, i < S.length → (0 ≤ (gsi S i).f ∧ (gsi S i).f < N) ∧ 0 ≤ (gsi S i).t ∧ (gsi S i).t < N from fun i hi => by
    have hm := hmade
    unfold madeSB at hm
    simp only [Bool.and_eq_true, decide_eq_true_eq] at hm
    have := made_ends hok hm.1 S.length hm.2.2 i hi
    have e : (nvI r).length = N := by unfold nvI; rw [List.length_map]; exact hrl
    rw [e] at this
    exact this)
  have mi := fun (w : World) => run_makeIntss N (by omega) w
  have HRR := hide hr
  have HSS := hide hS
  have HRL := hide hrl
  unfold GiveOG at CG
  unfold GiveHC at CH
  clear h hr hS hok hmade hrl
  obtain ⟨n, hn⟩ : ∃ n, n = E.length := ⟨_, rfl⟩
  obtain ⟨n2, hn2⟩ : ∃ n2, n2 = S.length := ⟨_, rfl⟩
  rw [← hn] at CM CG hEl ⊢
  rw [← hn2] at CM CH HSS HME hsl hcap ⊢
  have HN := hide hn
  have HN2 := hide hn2
  clear hn hn2
  go_enter Try.func40, Try.ntmps40
  go_upto_region 6 with (go_at_call 80; refine (CM.out _ GG).mono ?_; rintro e w' ⟨rfl, hg⟩; obtain ⟨x1, rfl⟩ := hg.later; clear hg)
  have hgw : Grows w x1.now := GG
  have a2 : Arr x1.now w.heap.size 44 [.int .i64 (N : Int), .slice A n c] := ((Arr.make _ _ _).grow ((Grows.refl _).new _)).grow x1.grows
  have a3 : Arr x1.now (w.heap.size + 1) 63 [.slice B N d, .slice A2 n2 c2] := by
    have h1 := (Arr.make (w.alloc (.cells #[.int .i64 (N : Int), .slice A n c] 44)) [.slice B N d, .slice A2 n2 c2] 63).grow x1.grows
    simpa using h1
  generalize w.heap.size + 1 = b3 at *
  generalize w.heap.size = b2 at *
  generalize x1.now = W1 at *
  clear x1 CM
  obtain ⟨y1, rfl⟩ := hgw.later
  clear hgw
  obtain ⟨VV, hVV⟩ : ∃ V : HnC → Nat → Value, V = fun k j => ([.agg #[.int .i64 (N : Int), .slice A n c], .agg #[.int .i64 (N : Int), .slice k.Ag n k.cg], .agg #[.slice B N d, .slice A2 n2 c2], .agg #[.slice k.Br N k.dr, .slice k.As n2 k.cs], .pointer (some ⟨b2, 0, none⟩), .int .i64 (N : Int), .slice (some ⟨k.go, 0, none⟩) N N, .pointer (some ⟨b2, 0, none⟩), .int .i64 (N : Int), .slice (some ⟨k.gi_, 0, none⟩) N N, .agg #[.int .i64 (N : Int), .slice k.Ag n k.cg, .slice k.Br N k.dr, .slice k.As n2 k.cs, .slice (some ⟨k.go, 0, none⟩) N N, .slice (some ⟨k.gi_, 0, none⟩) N N], .pointer (some ⟨k.b, 0, none⟩), .pointer (some ⟨k.b, 0, none⟩)] : List Value).getD j undef := ⟨_, rfl⟩
  refine wp_region_some (by kernel_rfl) (by kernel_rfl) (by kernel_rfl) (by kernel_rfl) (by kernel_rfl) VV
    (fun k D w1 => Grows y1.now w1 ∧ (D 1 = true → Own w1 0 93 3 k.Ag n k.cg (esCells E)) ∧ (D 3 = true → Own w1 0 3 1 k.Br N k.dr (nv r) ∧ Own w1 0 95 6 k.As n2 k.cs (sis S)) ∧ (D 6 = true → y1.now.heap.size ≤ k.go ∧ Arr w1 k.go 29 (List.replicate N (.slice none 0 0))) ∧ (D 9 = true → y1.now.heap.size ≤ k.gi_ ∧ Arr w1 k.gi_ 29 (List.replicate N (.slice none 0 0))) ∧ (D 6 = true → D 9 = true → k.go ≠ k.gi_) ∧ (D 11 = true → y1.now.heap.size ≤ k.b ∧ Arr w1 k.b 113 [.int .i64 (N : Int), .slice k.Ag n k.cg, .slice k.Br N k.dr, .slice k.As n2 k.cs, .slice (some ⟨k.go, 0, none⟩) N N, .slice (some ⟨k.gi_, 0, none⟩) N N]))
    ⟨none, 0, none, 0, none, 0, 0, 0, 0⟩ ⟨(Grows.refl _).drew, fun h => absurd h (by simp), fun h => absurd h (by simp), fun h => absurd h (by simp), fun h => absurd h (by simp), fun h => absurd h (by simp), fun h => absurd h (by simp)⟩ ?hs ?he
  case hs =>
    subst hVV
    intro k a hV hO ii oo' ho D hcl hD hpre w1 hM
    obtain ⟨hgx, h1, h3, h6, h9, hne, h11⟩ := hM
    obtain ⟨z, rfl⟩ := hgx.later
    match ii, ho, hD, hpre with
      | 0, ho, hD, hpre =>
        cases (show some _ = some oo' from ho)
        have e2 := ev_nfK ((hO 2 (notDstK (by kernel_rfl))).trans rfl)
        refine runsTo_mono11 (Q := fun uu w1 => w1 = z.now ∧ uu = (.agg #[.int .i64 (N : Int), .slice A n c] : Value)) ?_ (fun uu w1 ⟨h0, hq⟩ => ⟨k, by subst h0; exact ⟨z.grows, by simpa using h1, by simpa using h3, by simpa using h6, by simpa using h9, by simpa using hne, by simpa using h11⟩, fun _ _ _ => rfl, .inr hq⟩)
        clear h1 h3 h6 h9 hne h11
        go_simp
        all_goals exact ⟨rfl, rfl⟩
      | 1, ho, hD, hpre =>
        cases (show some _ = some oo' from ho)
        have e26 := ev_nfK (hV 0 26 rfl)
        have n10 : D 10 = false := by
          cases hd : D 10 with
          | false => rfl
          | true => exact absurd (hcl 10 1 hd (by kernel_rfl)) (by rw [hD]; exact Bool.false_ne_true)
        have n11 : D 11 = false := by
          cases hd : D 11 with
          | false => rfl
          | true => exact absurd (hcl 10 1 (hcl 11 10 hd (by kernel_rfl)) (by kernel_rfl)) (by rw [hD]; exact Bool.false_ne_true)
        have n12 : D 12 = false := by
          cases hd : D 12 with
          | false => rfl
          | true => exact absurd (hcl 12 11 hd (by kernel_rfl)) (by rw [n11]; exact Bool.false_ne_true)
        refine runsTo_mono11 (Q := fun uu w1 => Grows z.now w1 ∧ ∃ A9 c9, uu = (.agg #[.int .i64 (N : Int), .slice A9 n c9] : Value) ∧ Own w1 0 93 3 A9 n c9 (esCells E)) ?_ (fun uu w1 hq => ?_)
        · clear h1 h3 h6 h9 hne h11
          go_simp
          refine (CG.out _ (y1.grows.trans z.grows)).mono ?_
          rintro e w2 ⟨A9, c9, rfl, ho, hg⟩
          exact ⟨_, rfl, hg, A9, c9, rfl, ho.base (Nat.zero_le _)⟩
        · obtain ⟨h4, A9, c9, h0, ho⟩ := hq
          refine ⟨{ k with Ag := A9, cg := c9 }, ⟨z.grows.trans h4, fun _ => ho, fun hd => ⟨(h3 (by simpa using hd)).1.grows h4, (h3 (by simpa using hd)).2.grows h4⟩, fun hd => ⟨(h6 (by simpa using hd)).1, (h6 (by simpa using hd)).2.grow h4⟩, fun hd => ⟨(h9 (by simpa using hd)).1, (h9 (by simpa using hd)).2.grow h4⟩, by simpa using hne, fun hd => absurd hd (by simp [n11])⟩, fun j _ hDj => ?_, .inr h0⟩
          · match j, hDj with
            | 0, _ => rfl
            | 1, hDj => exact absurd hDj (by rw [hD]; exact Bool.false_ne_true)
            | 2, _ => rfl
            | 3, _ => rfl
            | 4, _ => rfl
            | 5, _ => rfl
            | 6, _ => rfl
            | 7, _ => rfl
            | 8, _ => rfl
            | 9, _ => rfl
            | 10, hDj => exact absurd hDj (by rw [n10]; exact Bool.false_ne_true)
            | 11, hDj => exact absurd hDj (by rw [n11]; exact Bool.false_ne_true)
            | 12, hDj => exact absurd hDj (by rw [n12]; exact Bool.false_ne_true)
            | n + 13, _ => rfl
      | 2, ho, hD, hpre =>
        cases (show some _ = some oo' from ho)
        have e3 := ev_nfK ((hO 3 (notDstK (by kernel_rfl))).trans rfl)
        refine runsTo_mono11 (Q := fun uu w1 => w1 = z.now ∧ uu = (.agg #[.slice B N d, .slice A2 n2 c2] : Value)) ?_ (fun uu w1 ⟨h0, hq⟩ => ⟨k, by subst h0; exact ⟨z.grows, by simpa using h1, by simpa using h3, by simpa using h6, by simpa using h9, by simpa using hne, by simpa using h11⟩, fun _ _ _ => rfl, .inr hq⟩)
        clear h1 h3 h6 h9 hne h11
        go_simp
        all_goals exact ⟨rfl, rfl⟩
      | 3, ho, hD, hpre =>
        cases (show some _ = some oo' from ho)
        have e28 := ev_nfK (hV 2 28 rfl)
        have n10 : D 10 = false := by
          cases hd : D 10 with
          | false => rfl
          | true => exact absurd (hcl 10 3 hd (by kernel_rfl)) (by rw [hD]; exact Bool.false_ne_true)
        have n11 : D 11 = false := by
          cases hd : D 11 with
          | false => rfl
          | true => exact absurd (hcl 10 3 (hcl 11 10 hd (by kernel_rfl)) (by kernel_rfl)) (by rw [hD]; exact Bool.false_ne_true)
        have n12 : D 12 = false := by
          cases hd : D 12 with
          | false => rfl
          | true => exact absurd (hcl 12 11 hd (by kernel_rfl)) (by rw [n11]; exact Bool.false_ne_true)
        refine runsTo_mono11 (Q := fun uu w1 => Grows z.now w1 ∧ ∃ B9 d9 A9 c9, uu = (.agg #[.slice B9 N d9, .slice A9 n2 c9] : Value) ∧ Own w1 0 3 1 B9 N d9 (nv r) ∧ Own w1 0 95 6 A9 n2 c9 (sis S)) ?_ (fun uu w1 hq => ?_)
        · clear h1 h3 h6 h9 hne h11
          go_simp
          refine (CH.out _ (y1.grows.trans z.grows)).mono ?_
          rintro e w2 ⟨B9, d9, A9, c9, rfl, ho, ho2, hg⟩
          exact ⟨_, rfl, hg, B9, d9, A9, c9, rfl, by rw [nvI_vals]; exact ho.base (Nat.zero_le _), ho2.base (Nat.zero_le _)⟩
        · obtain ⟨h4, B9, d9, A9, c9, h0, ho, ho2⟩ := hq
          refine ⟨{ k with Br := B9, dr := d9, As := A9, cs := c9 }, ⟨z.grows.trans h4, fun hd => (h1 (by simpa using hd)).grows h4, fun _ => ⟨ho, ho2⟩, fun hd => ⟨(h6 (by simpa using hd)).1, (h6 (by simpa using hd)).2.grow h4⟩, fun hd => ⟨(h9 (by simpa using hd)).1, (h9 (by simpa using hd)).2.grow h4⟩, by simpa using hne, fun hd => absurd hd (by simp [n11])⟩, fun j _ hDj => ?_, .inr h0⟩
          · match j, hDj with
            | 0, _ => rfl
            | 1, _ => rfl
            | 2, _ => rfl
            | 3, hDj => exact absurd hDj (by rw [hD]; exact Bool.false_ne_true)
            | 4, _ => rfl
            | 5, _ => rfl
            | 6, _ => rfl
            | 7, _ => rfl
            | 8, _ => rfl
            | 9, _ => rfl
            | 10, hDj => exact absurd hDj (by rw [n10]; exact Bool.false_ne_true)
            | 11, hDj => exact absurd hDj (by rw [n11]; exact Bool.false_ne_true)
            | 12, hDj => exact absurd hDj (by rw [n12]; exact Bool.false_ne_true)
            | n + 13, _ => rfl
      | 4, ho, hD, hpre =>
        cases (show some _ = some oo' from ho)
        have e2 := ev_nfK ((hO 2 (notDstK (by kernel_rfl))).trans rfl)
        refine runsTo_mono11 (Q := fun uu w1 => w1 = z.now ∧ uu = (.pointer (some ⟨b2, 0, none⟩) : Value)) ?_ (fun uu w1 ⟨h0, hq⟩ => ⟨k, by subst h0; exact ⟨z.grows, by simpa using h1, by simpa using h3, by simpa using h6, by simpa using h9, by simpa using hne, by simpa using h11⟩, fun _ _ _ => rfl, .inr hq⟩)
        clear h1 h3 h6 h9 hne h11
        go_simp
        all_goals exact ⟨rfl, rfl⟩
      | 5, ho, hD, hpre =>
        cases (show some _ = some oo' from ho)
        have e30 := ev_nfK (hV 4 30 rfl)
        refine runsTo_mono11 (Q := fun uu w1 => w1 = z.now ∧ uu = (.int .i64 (N : Int) : Value)) ?_ (fun uu w1 ⟨h0, hq⟩ => ⟨k, by subst h0; exact ⟨z.grows, by simpa using h1, by simpa using h3, by simpa using h6, by simpa using h9, by simpa using hne, by simpa using h11⟩, fun _ _ _ => rfl, .inr hq⟩)
        clear h1 h3 h6 h9 hne h11
        go_simp
        all_goals exact ⟨rfl, rfl⟩
      | 6, ho, hD, hpre =>
        cases (show some _ = some oo' from ho)
        have e31 := ev_nfK (hV 5 31 rfl)
        have n10 : D 10 = false := by
          cases hd : D 10 with
          | false => rfl
          | true => exact absurd (hcl 10 6 hd (by kernel_rfl)) (by rw [hD]; exact Bool.false_ne_true)
        have n11 : D 11 = false := by
          cases hd : D 11 with
          | false => rfl
          | true => exact absurd (hcl 11 10 hd (by kernel_rfl)) (by rw [n10]; exact Bool.false_ne_true)
        have n12 : D 12 = false := by
          cases hd : D 12 with
          | false => rfl
          | true => exact absurd (hcl 12 11 hd (by kernel_rfl)) (by rw [n11]; exact Bool.false_ne_true)
        have h4 : Grows z.now (z.now.alloc (.cells (List.replicate N (Value.slice none 0 0)).toArray 29)) := (Grows.refl _).new _
        refine runsTo_mono11 (Q := fun uu w1 => w1 = z.now.alloc (.cells (List.replicate N (Value.slice none 0 0)).toArray 29) ∧ uu = (.slice (some ⟨z.now.heap.size, 0, none⟩) N N : Value)) ?_ (fun uu w1 hq => ?_)
        · clear h1 h3 h6 h9 hne h11
          go_simp
          all_goals exact ⟨rfl, rfl⟩
        · obtain ⟨h8, h0⟩ := hq
          subst h8
          refine ⟨{ k with go := z.now.heap.size }, ⟨z.grows.trans h4, fun hd => (h1 (by simpa using hd)).grows h4, fun hd => ⟨(h3 (by simpa using hd)).1.grows h4, (h3 (by simpa using hd)).2.grows h4⟩, fun _ => ⟨z.size, Arr.make _ _ _⟩, fun hd => ⟨(h9 (by simpa using hd)).1, (h9 (by simpa using hd)).2.grow h4⟩, fun _ hd e => by have := (h9 (by simpa using hd)).2.lt; simp only at e; omega, fun hd => absurd hd (by simp [n11])⟩, fun j _ hDj => ?_, .inr h0⟩
          · match j, hDj with
            | 0, _ => rfl
            | 1, _ => rfl
            | 2, _ => rfl
            | 3, _ => rfl
            | 4, _ => rfl
            | 5, _ => rfl
            | 6, hDj => exact absurd hDj (by rw [hD]; exact Bool.false_ne_true)
            | 7, _ => rfl
            | 8, _ => rfl
            | 9, _ => rfl
            | 10, hDj => exact absurd hDj (by rw [n10]; exact Bool.false_ne_true)
            | 11, hDj => exact absurd hDj (by rw [n11]; exact Bool.false_ne_true)
            | 12, hDj => exact absurd hDj (by rw [n12]; exact Bool.false_ne_true)
            | n + 13, _ => rfl
      | 7, ho, hD, hpre =>
        cases (show some _ = some oo' from ho)
        have e2 := ev_nfK ((hO 2 (notDstK (by kernel_rfl))).trans rfl)
        refine runsTo_mono11 (Q := fun uu w1 => w1 = z.now ∧ uu = (.pointer (some ⟨b2, 0, none⟩) : Value)) ?_ (fun uu w1 ⟨h0, hq⟩ => ⟨k, by subst h0; exact ⟨z.grows, by simpa using h1, by simpa using h3, by simpa using h6, by simpa using h9, by simpa using hne, by simpa using h11⟩, fun _ _ _ => rfl, .inr hq⟩)
        clear h1 h3 h6 h9 hne h11
        go_simp
        all_goals exact ⟨rfl, rfl⟩
      | 8, ho, hD, hpre =>
        cases (show some _ = some oo' from ho)
        have e33 := ev_nfK (hV 7 33 rfl)
        refine runsTo_mono11 (Q := fun uu w1 => w1 = z.now ∧ uu = (.int .i64 (N : Int) : Value)) ?_ (fun uu w1 ⟨h0, hq⟩ => ⟨k, by subst h0; exact ⟨z.grows, by simpa using h1, by simpa using h3, by simpa using h6, by simpa using h9, by simpa using hne, by simpa using h11⟩, fun _ _ _ => rfl, .inr hq⟩)
        clear h1 h3 h6 h9 hne h11
        go_simp
        all_goals exact ⟨rfl, rfl⟩
      | 9, ho, hD, hpre =>
        cases (show some _ = some oo' from ho)
        have e34 := ev_nfK (hV 8 34 rfl)
        have n10 : D 10 = false := by
          cases hd : D 10 with
          | false => rfl
          | true => exact absurd (hcl 10 9 hd (by kernel_rfl)) (by rw [hD]; exact Bool.false_ne_true)
        have n11 : D 11 = false := by
          cases hd : D 11 with
          | false => rfl
          | true => exact absurd (hcl 11 10 hd (by kernel_rfl)) (by rw [n10]; exact Bool.false_ne_true)
        have n12 : D 12 = false := by
          cases hd : D 12 with
          | false => rfl
          | true => exact absurd (hcl 12 11 hd (by kernel_rfl)) (by rw [n11]; exact Bool.false_ne_true)
        have h4 : Grows z.now (z.now.alloc (.cells (List.replicate N (Value.slice none 0 0)).toArray 29)) := (Grows.refl _).new _
        refine runsTo_mono11 (Q := fun uu w1 => w1 = z.now.alloc (.cells (List.replicate N (Value.slice none 0 0)).toArray 29) ∧ uu = (.slice (some ⟨z.now.heap.size, 0, none⟩) N N : Value)) ?_ (fun uu w1 hq => ?_)
        · clear h1 h3 h6 h9 hne h11
          go_simp
          all_goals exact ⟨rfl, rfl⟩
        · obtain ⟨h8, h0⟩ := hq
          subst h8
          refine ⟨{ k with gi_ := z.now.heap.size }, ⟨z.grows.trans h4, fun hd => (h1 (by simpa using hd)).grows h4, fun hd => ⟨(h3 (by simpa using hd)).1.grows h4, (h3 (by simpa using hd)).2.grows h4⟩, fun hd => ⟨(h6 (by simpa using hd)).1, (h6 (by simpa using hd)).2.grow h4⟩, fun _ => ⟨z.size, Arr.make _ _ _⟩, fun hd _ e => by have := (h6 (by simpa using hd)).2.lt; simp only at e; omega, fun hd => absurd hd (by simp [n11])⟩, fun j _ hDj => ?_, .inr h0⟩
          · match j, hDj with
            | 0, _ => rfl
            | 1, _ => rfl
            | 2, _ => rfl
            | 3, _ => rfl
            | 4, _ => rfl
            | 5, _ => rfl
            | 6, _ => rfl
            | 7, _ => rfl
            | 8, _ => rfl
            | 9, hDj => exact absurd hDj (by rw [hD]; exact Bool.false_ne_true)
            | 10, hDj => exact absurd hDj (by rw [n10]; exact Bool.false_ne_true)
            | 11, hDj => exact absurd hDj (by rw [n11]; exact Bool.false_ne_true)
            | 12, hDj => exact absurd hDj (by rw [n12]; exact Bool.false_ne_true)
            | n + 13, _ => rfl
      | 10, ho, hD, hpre =>
        cases (show some _ = some oo' from ho)
        have e27 := ev_nfK (hV 1 27 rfl)
        have e29 := ev_nfK (hV 3 29 rfl)
        have e32 := ev_nfK (hV 6 32 rfl)
        have e35 := ev_nfK (hV 9 35 rfl)
        refine runsTo_mono11 (Q := fun uu w1 => w1 = z.now ∧ uu = (.agg #[.int .i64 (N : Int), .slice k.Ag n k.cg, .slice k.Br N k.dr, .slice k.As n2 k.cs, .slice (some ⟨k.go, 0, none⟩) N N, .slice (some ⟨k.gi_, 0, none⟩) N N] : Value)) ?_ (fun uu w1 ⟨h0, hq⟩ => ⟨k, by subst h0; exact ⟨z.grows, by simpa using h1, by simpa using h3, by simpa using h6, by simpa using h9, by simpa using hne, by simpa using h11⟩, fun _ _ _ => rfl, .inr hq⟩)
        clear h1 h3 h6 h9 hne h11
        go_simp
        all_goals exact ⟨rfl, rfl⟩
      | 11, ho, hD, hpre =>
        cases (show some _ = some oo' from ho)
        have e36 := ev_nfK (hV 10 36 rfl)
        have n12 : D 12 = false := by
          cases hd : D 12 with
          | false => rfl
          | true => exact absurd (hcl 12 11 hd (by kernel_rfl)) (by rw [hD]; exact Bool.false_ne_true)
        have h4 : Grows z.now (z.now.alloc (.cells #[.int .i64 (N : Int), .slice k.Ag n k.cg, .slice k.Br N k.dr, .slice k.As n2 k.cs, .slice (some ⟨k.go, 0, none⟩) N N, .slice (some ⟨k.gi_, 0, none⟩) N N] 113)) := (Grows.refl _).new _
        refine runsTo_mono11 (Q := fun uu w1 => w1 = z.now.alloc (.cells #[.int .i64 (N : Int), .slice k.Ag n k.cg, .slice k.Br N k.dr, .slice k.As n2 k.cs, .slice (some ⟨k.go, 0, none⟩) N N, .slice (some ⟨k.gi_, 0, none⟩) N N] 113) ∧ uu = (.pointer (some ⟨z.now.heap.size, 0, none⟩) : Value)) ?_ (fun uu w1 hq => ?_)
        · clear h1 h3 h6 h9 hne h11
          go_simp
          all_goals exact ⟨rfl, rfl⟩
        · obtain ⟨h8, h0⟩ := hq
          subst h8
          refine ⟨{ k with b := z.now.heap.size }, ⟨z.grows.trans h4, fun hd => (h1 (by simpa using hd)).grows h4, fun hd => ⟨(h3 (by simpa using hd)).1.grows h4, (h3 (by simpa using hd)).2.grows h4⟩, fun hd => ⟨(h6 (by simpa using hd)).1, (h6 (by simpa using hd)).2.grow h4⟩, fun hd => ⟨(h9 (by simpa using hd)).1, (h9 (by simpa using hd)).2.grow h4⟩, by simpa using hne, fun _ => ⟨z.size, Arr.make _ _ _⟩⟩, fun j _ hDj => ?_, .inr h0⟩
          · match j, hDj with
            | 0, _ => rfl
            | 1, _ => rfl
            | 2, _ => rfl
            | 3, _ => rfl
            | 4, _ => rfl
            | 5, _ => rfl
            | 6, _ => rfl
            | 7, _ => rfl
            | 8, _ => rfl
            | 9, _ => rfl
            | 10, _ => rfl
            | 11, hDj => exact absurd hDj (by rw [hD]; exact Bool.false_ne_true)
            | 12, hDj => exact absurd hDj (by rw [n12]; exact Bool.false_ne_true)
            | n + 13, _ => rfl
      | 12, ho, hD, hpre =>
        cases (show some _ = some oo' from ho)
        have e37 := ev_nfK (hV 11 37 rfl)
        refine runsTo_mono11 (Q := fun uu w1 => w1 = z.now ∧ uu = (.pointer (some ⟨k.b, 0, none⟩) : Value)) ?_ (fun uu w1 ⟨h0, hq⟩ => ⟨k, by subst h0; exact ⟨z.grows, by simpa using h1, by simpa using h3, by simpa using h6, by simpa using h9, by simpa using hne, by simpa using h11⟩, fun _ _ _ => rfl, .inr hq⟩)
        clear h1 h3 h6 h9 hne h11
        go_simp
        all_goals exact ⟨rfl, rfl⟩
      | n + 13, ho, hD, hpre => cases ho
  case he =>
    intro k w1 hM
    obtain ⟨hgx, h1, h3, h6, h9, hne, h11⟩ := hM
    obtain ⟨z, rfl⟩ := hgx.later
    have H1 := hide (h1 rfl)
    have H3 := hide (h3 rfl)
    have H6 := hide (h6 rfl)
    have H9 := hide (h9 rfl)
    have HNE := hide (hne rfl rfl)
    have H11 := hide (h11 rfl)
    clear h1 h3 h6 h9 hne h11 hgx
    subst hVV
    obtain ⟨Ag, cg, Br, dr, As, cs, go, gi_, b⟩ := k
    simp only [putAll, dstOf, List.length_cons, List.length_nil, Nat.reduceAdd, List.getElem?_cons_zero, List.getElem?_cons_succ, Option.bind_some, List.getD_cons_zero, List.getD_cons_succ, Act.put, List.setIfInBounds_toArray, List.set_cons_zero, List.set_cons_succ]
    dsimp only at H1 H3 H6 H9 HNE H11
    go_wp2_with fail
    have HG1 := hide z.grows
    have ar3 := a3.grow z.grows
    have ar2 := a2.grow z.grows
    have HOUT := hide (HiRows.start H6.out.2)
    have HIN := hide (HiRows.start H9.out.2)
    have ab := H11.out.2
    have hbs : b < z.now.heap.size ∧ y1.now.heap.size ≤ go ∧ y1.now.heap.size ≤ gi_ ∧ b3 < y1.now.heap.size ∧ b ≠ go ∧ b ≠ gi_ := ⟨ab.lt, H6.out.1, H9.out.1, a3.lt, ab.ne H6.out.2 (by decide), ab.ne H9.out.2 (by decide)⟩
    have HBS := hide hbs
    have HND := hide (And.intro (fun p hp => And.intro (H1.out.not_arr H6.out.2 (by decide) p hp) (H1.out.not_arr H9.out.2 (by decide) p hp)) (And.intro (fun p hp => And.intro (H3.out.1.not_arr H6.out.2 (by decide) p hp) (H3.out.1.not_arr H9.out.2 (by decide) p hp)) (fun p hp => And.intro (H3.out.2.not_arr H6.out.2 (by decide) p hp) (H3.out.2.not_arr H9.out.2 (by decide) p hp))))
    clear hbs mi CG CH H6 H9
    have hgz : Grows w z.now := y1.grows.trans z.grows
    have HGZ := hide hgz
    generalize z.now = Z at *
    clear hgz ar2 ar3 ab
    have AR3 := hide ((a3.grow HG1.out))
    have AB := hide H11.out.2
    obtain ⟨SS, hSS⟩ : ∃ SS : Nat → Prop, SS = fun j => j = go ∨ j = gi_ := ⟨_, rfl⟩
    have HSD := hide hSS
    clear hSS a2 a3
    go_loopw [41] (fun i wr => ∃ q : Nat, q ≤ n2 ∧ i = .int .i64 (q : Int) ∧ Hid (Touch SS Z wr) ∧ Hid (HiRows wr go N (fun v => upL r S false v q)) ∧ Hid (HiRows wr gi_ N (fun v => upL r S true v q))) (fun i _ => n2 - (Go.RowKit.intOf i).toNat)
    case atStart =>
      have e : ∀ back v, upL r S back v 0 = [] := fun back v => rfl
      exact ⟨0, by omega, by go_num, hide (Touch.refl _ _), hide (HOUT.out.congr (fun v _ => (e _ _).symm)), hide (HIN.out.congr (fun v _ => (e _ _).symm))⟩
    case round =>
      obtain ⟨q, hq, rfl, HT, HO, HI⟩ := hrel
      have HSZ := hide HT.out.size
      have hgw : Grows w wr := HT.out.later HGZ.out (fun j hj => by
        rw [HSD.out] at hj
        have := y1.size
        rcases hj with e | e <;> rw [e]
        · exact Nat.le_trans this HBS.out.2.1
        · exact Nat.le_trans this HBS.out.2.2.1)
      have nS : ∀ j, j ≠ go → j ≠ gi_ → ¬ SS j := fun j h1 h2 e => by
        rw [HSD.out] at e
        rcases e with e | e
        · exact h1 e
        · exact h2 e
      have ab : Arr wr b 113 [.int .i64 (N : Int), .slice Ag n cg, .slice Br N dr, .slice As n2 cs, .slice (some ⟨go, 0, none⟩) N N, .slice (some ⟨gi_, 0, none⟩) N N] := AB.out.touch HT.out (nS b HBS.out.2.2.2.2.1 HBS.out.2.2.2.2.2)
      have ar3 : Arr wr b3 63 [.slice B N d, .slice A2 n2 c2] := AR3.out.touch HT.out (nS b3 (by have := HBS.out; omega) (by have := HBS.out; omega))
      obtain ⟨y, rfl⟩ := hgw.later
      clear HOUT HIN hgw nS
      by_cases hlt : q < n2
      · obtain ⟨bb, off, rfl, hcc⟩ := HSS.out.siH (by omega)
        obtain ⟨c1, c2', c3, c4, c5, c6⟩ := hcc q hlt
        obtain ⟨⟨x1, x2⟩, x3, x4⟩ := HME.out q hlt
        obtain ⟨u, hu⟩ : ∃ u : Nat, (gsi S q).f = (u : Int) := ⟨(gsi S q).f.toNat, by omega⟩
        obtain ⟨xt, hx⟩ : ∃ xt : Nat, (gsi S q).t = (xt : Int) := ⟨(gsi S q).t.toNat, by omega⟩
        rw [hu] at c1
        rw [hx] at c2'
        have huN : u < N := by omega
        have hxN : xt < N := by omega
        obtain ⟨bR, offR, rfl, hcR⟩ := (show Rd w B 1 N ((nvI r).map (.int .i64)) by rw [← nvI_vals]; exact HRR.out).intsH (by omega)
        have k1 := hcR u huN
        have k2 := hcR xt hxN
        rw [nvI_gi _ _ (by rw [HRL.out]; exact huN)] at k1
        rw [nvI_gi _ _ (by rw [HRL.out]; exact hxN)] at k2
        have HUF : Hid (∀ v, upB r S false v q = (decide (u = v) && !decide (gn r xt < gn r u))) := hide (fun v => by unfold upB; rw [hu, hx, Int.toNat_natCast, Int.toNat_natCast, if_neg Bool.false_ne_true, show decide ((u : Int) = (v : Int)) = decide (u = v) from decide_eq_decide.2 (by omega)])
        have HUT : Hid (∀ v, upB r S true v q = (decide (xt = v) && decide (gn r xt < gn r u))) := hide (fun v => by unfold upB; rw [hu, hx, Int.toNat_natCast, Int.toNat_natCast, if_pos rfl, show decide ((xt : Int) = (v : Int)) = decide (xt = v) from decide_eq_decide.2 (by omega)])
        clear hcc hcR hu hx x1 x2 x3 x4
        generalize (gsi S q).w = sw at *
        generalize (gsi S q).e = se at *
        generalize (gsi S q).a = sa at *
        generalize (gsi S q).b = sb at *
        by_cases hd : gn r xt < gn r u
        · skip
          obtain ⟨Ar, cr, mr, hro⟩ := HI.out.row hxN
          have hrl2 := upL_len r S true xt q
          have hrc := hro.capH
          have HRO := hide hro
          have hdd : gn r xt < gn r u := hd
          clear hro hd
          generalize gn r xt = rx at *
          generalize gn r u = ru at *
          obtain ⟨L, hL⟩ : ∃ L, L = upL r S true xt q := ⟨_, rfl⟩
          rw [← hL] at mr HRO hrl2 hrc
          have HL := hide hL
          clear hL
          cases Ar with
          | none =>
            have h0 := HRO.out.nilH rfl
            have hc0 : cr = 0 := by
              rcases HRO.out.2 with ⟨h1, _⟩ | ⟨_, _, _, h1, _⟩
              · injection h1
              · injection h1 with h1; cases h1
            have hL0 : L = [] := List.eq_nil_of_length_eq_zero h0
            subst hL0 hc0
            clear h0 hrc hrl2
            go_wp2_with fail
            ((first | refine wp_region_gen (by kernel_rfl) (by kernel_rfl) ?_); (repeat' (first | (refine gLex_val0 rfl (by kernel_rfl) (fun K hK => ?_); (go_simp; (try (simp only [↓IntWalk.iteOmega]; try go_simp)); (try simp (disch := omega) only [IntWalk.i64_in]); (try simp (disch := omega) only [IntWalk.u64_in]); first | (refine hK _ ?_; clear hK K) | (apply Exists.intro; refine ⟨fun x => ?_, hK _ ?_⟩; (first | fail); clear hK K))) | (refine gLex_undef rfl rfl rfl (by kernel_rfl) (fun K hK => ?_); go_simp; refine hK _ ?_; clear hK K) | (refine gLex_ask rfl rfl rfl ?_; first | (apply gAsk_yes; kernel_rfl; intro K hK; (go_simp; (try (simp only [↓IntWalk.iteOmega]; try go_simp)); (try simp (disch := omega) only [IntWalk.i64_in]); (try simp (disch := omega) only [IntWalk.u64_in]); first | (refine hK _ ?_; clear hK K) | (apply Exists.intro; refine ⟨fun x => ?_, hK _ ?_⟩; (first | fail); clear hK K))) | ((first | apply gAsk_no1 | apply gAsk_no2); kernel_rfl; intro K hK; simp [go_sem]; refine hK _ ?_; clear hK K) | (apply gAsk_part; kernel_rfl; all_goals (intro h K hK; (try simp only [Bool.not_true] at h); (try simp only [Bool.not_false] at h); (try simp only [decide_eq_true_eq] at h); (try simp only [decide_eq_false_iff_not] at h); first | (exfalso; first | contradiction | omega) | (go_simp; (try (simp only [↓IntWalk.iteOmega]; try go_simp)); (try simp (disch := omega) only [IntWalk.i64_in]); (try simp (disch := omega) only [IntWalk.u64_in]); first | (refine hK _ ?_; clear hK K) | (apply Exists.intro; refine ⟨fun x => ?_, hK _ ?_⟩; (first | fail); clear hK K))))))); all_goals ((apply gLex_end); intro x))
            go_wp2_with fail
            ((first | refine wp_region_gen (by kernel_rfl) (by kernel_rfl) ?_); (repeat' (first | (refine gLex_val0 rfl (by kernel_rfl) (fun K hK => ?_); (go_simp; (try (simp only [↓IntWalk.iteOmega]; try go_simp)); (try simp (disch := omega) only [IntWalk.i64_in]); (try simp (disch := omega) only [IntWalk.u64_in]); first | (refine hK _ ?_; clear hK K) | (apply Exists.intro; refine ⟨fun x => ?_, hK _ ?_⟩; (first | fail); clear hK K))) | (refine gLex_undef rfl rfl rfl (by kernel_rfl) (fun K hK => ?_); go_simp; refine hK _ ?_; clear hK K) | (refine gLex_ask rfl rfl rfl ?_; first | (apply gAsk_yes; kernel_rfl; intro K hK; (go_simp; (try (simp only [↓IntWalk.iteOmega]; try go_simp)); (try simp (disch := omega) only [IntWalk.i64_in]); (try simp (disch := omega) only [IntWalk.u64_in]); first | (refine hK _ ?_; clear hK K) | (apply Exists.intro; refine ⟨fun x => ?_, hK _ ?_⟩; (first | fail); clear hK K))) | ((first | apply gAsk_no1 | apply gAsk_no2); kernel_rfl; intro K hK; simp [go_sem]; refine hK _ ?_; clear hK K) | (apply gAsk_part; kernel_rfl; all_goals (intro h K hK; (try simp only [Bool.not_true] at h); (try simp only [Bool.not_false] at h); (try simp only [decide_eq_true_eq] at h); (try simp only [decide_eq_false_iff_not] at h); first | (exfalso; first | contradiction | omega) | (go_simp; (try (simp only [↓IntWalk.iteOmega]; try go_simp)); (try simp (disch := omega) only [IntWalk.i64_in]); (try simp (disch := omega) only [IntWalk.u64_in]); first | (refine hK _ ?_; clear hK K) | (apply Exists.intro; refine ⟨fun x => ?_, hK _ ?_⟩; (first | fail); clear hK K))))))); all_goals ((apply gLex_end); intro x))
            go_wp2_with fail
            ((first | refine wp_region_gen (by kernel_rfl) (by kernel_rfl) ?_); (repeat' (first | (refine gLex_val0 rfl (by kernel_rfl) (fun K hK => ?_); (go_simp; (try (simp only [↓IntWalk.iteOmega]; try go_simp)); (try simp (disch := omega) only [IntWalk.i64_in]); (try simp (disch := omega) only [IntWalk.u64_in]); first | (refine hK _ ?_; clear hK K) | (apply Exists.intro; refine ⟨fun x => ?_, hK _ ?_⟩; (first | fail); clear hK K))) | (refine gLex_undef rfl rfl rfl (by kernel_rfl) (fun K hK => ?_); go_simp; refine hK _ ?_; clear hK K) | (refine gLex_ask rfl rfl rfl ?_; first | (apply gAsk_yes; kernel_rfl; intro K hK; (go_simp; (try (simp only [↓IntWalk.iteOmega]; try go_simp)); (try simp (disch := omega) only [IntWalk.i64_in]); (try simp (disch := omega) only [IntWalk.u64_in]); first | (refine hK _ ?_; clear hK K) | (apply Exists.intro; refine ⟨fun x => ?_, hK _ ?_⟩; (first | fail); clear hK K))) | ((first | apply gAsk_no1 | apply gAsk_no2); kernel_rfl; intro K hK; simp [go_sem]; refine hK _ ?_; clear hK K) | (apply gAsk_part; kernel_rfl; all_goals (intro h K hK; (try simp only [Bool.not_true] at h); (try simp only [Bool.not_false] at h); (try simp only [decide_eq_true_eq] at h); (try simp only [decide_eq_false_iff_not] at h); first | (exfalso; first | contradiction | omega) | (go_simp; (try (simp only [↓IntWalk.iteOmega]; try go_simp)); (try simp (disch := omega) only [IntWalk.i64_in]); (try simp (disch := omega) only [IntWalk.u64_in]); first | (refine hK _ ?_; clear hK K) | (apply Exists.intro; refine ⟨fun x => ?_, hK _ ?_⟩; (first | fail); clear hK K))))))); all_goals ((apply gLex_end); intro x))
            go_wp2_with (at_builtin; refine wp_appF elemInt rfl _ _ rfl 0 none [] rfl ⟨rfl, fun h => absurd h (by omega)⟩ (fun _ => rfl) _ _ _ rfl inferInstance rfl (by omega) ?_; intro A5 c5 y5 ho5; have HO5 := hide ho5; clear ho5)
            have hG : Grows y.now y5.now := GG
            have hown : Own y5.now 0 3 1 A5 ([] ++ [q]).length c5 (nv ([] ++ [q])) := by
              have := HO5.out.base (Nat.zero_le _)
              rw [show nv ([] ++ [q]) = nv [] ++ [.int .i64 (q : Int)] by simp [nv], List.length_append, List.length_singleton]
              exact this
            obtain ⟨cs9, harr9⟩ := (HI.out.grow hG).arr
            have hp9 := (HI.out.grow hG).put hxN hown
            have hx9 := (HO.out.grow hG).other (v := xt) harr9 (Ne.symm HNE.out) (.slice A5 ([] ++ [q]).length c5)
            have ht9 := (HT.out.grows hG).set (p := ⟨gi_, xt, none⟩) (.inl (by rw [HSD.out]; exact .inr rfl)) (.slice A5 ([] ++ [q]).length c5)
            rw [List.length_append, List.length_singleton] at hp9 hx9 ht9
            refine ⟨⟨q + 1, by omega, by go_num, hide ht9, hide ?_, hide ?_⟩, by simp [Go.RowKit.intOf]; omega⟩
            · refine hx9.congr (fun v9 _ => ?_)
              rw [upL_no (by rw [HUF.out]; rw [decide_eq_true hdd]; simp)]
            · refine hp9.congr (fun v9 _ => ?_)
              by_cases e9 : v9 = xt
              · rw [if_pos e9, upL_yes (by rw [HUT.out, e9]; simp; omega), e9, ← HL.out]
              · rw [if_neg e9, upL_no (by rw [HUT.out, decide_eq_false (fun e => e9 e.symm)]; rfl)]
          | some ad =>
            go_wp2_with fail
            ((first | refine wp_region_gen (by kernel_rfl) (by kernel_rfl) ?_); (repeat' (first | (refine gLex_val0 rfl (by kernel_rfl) (fun K hK => ?_); (go_simp; (try (simp only [↓IntWalk.iteOmega]; try go_simp)); (try simp (disch := omega) only [IntWalk.i64_in]); (try simp (disch := omega) only [IntWalk.u64_in]); first | (refine hK _ ?_; clear hK K) | (apply Exists.intro; refine ⟨fun x => ?_, hK _ ?_⟩; (first | fail); clear hK K))) | (refine gLex_undef rfl rfl rfl (by kernel_rfl) (fun K hK => ?_); go_simp; refine hK _ ?_; clear hK K) | (refine gLex_ask rfl rfl rfl ?_; first | (apply gAsk_yes; kernel_rfl; intro K hK; (go_simp; (try (simp only [↓IntWalk.iteOmega]; try go_simp)); (try simp (disch := omega) only [IntWalk.i64_in]); (try simp (disch := omega) only [IntWalk.u64_in]); first | (refine hK _ ?_; clear hK K) | (apply Exists.intro; refine ⟨fun x => ?_, hK _ ?_⟩; (first | fail); clear hK K))) | ((first | apply gAsk_no1 | apply gAsk_no2); kernel_rfl; intro K hK; simp [go_sem]; refine hK _ ?_; clear hK K) | (apply gAsk_part; kernel_rfl; all_goals (intro h K hK; (try simp only [Bool.not_true] at h); (try simp only [Bool.not_false] at h); (try simp only [decide_eq_true_eq] at h); (try simp only [decide_eq_false_iff_not] at h); first | (exfalso; first | contradiction | omega) | (go_simp; (try (simp only [↓IntWalk.iteOmega]; try go_simp)); (try simp (disch := omega) only [IntWalk.i64_in]); (try simp (disch := omega) only [IntWalk.u64_in]); first | (refine hK _ ?_; clear hK K) | (apply Exists.intro; refine ⟨fun x => ?_, hK _ ?_⟩; (first | fail); clear hK K))))))); all_goals ((apply gLex_end); intro x))
            go_wp2_with fail
            ((first | refine wp_region_gen (by kernel_rfl) (by kernel_rfl) ?_); (repeat' (first | (refine gLex_val0 rfl (by kernel_rfl) (fun K hK => ?_); (go_simp; (try (simp only [↓IntWalk.iteOmega]; try go_simp)); (try simp (disch := omega) only [IntWalk.i64_in]); (try simp (disch := omega) only [IntWalk.u64_in]); first | (refine hK _ ?_; clear hK K) | (apply Exists.intro; refine ⟨fun x => ?_, hK _ ?_⟩; (first | fail); clear hK K))) | (refine gLex_undef rfl rfl rfl (by kernel_rfl) (fun K hK => ?_); go_simp; refine hK _ ?_; clear hK K) | (refine gLex_ask rfl rfl rfl ?_; first | (apply gAsk_yes; kernel_rfl; intro K hK; (go_simp; (try (simp only [↓IntWalk.iteOmega]; try go_simp)); (try simp (disch := omega) only [IntWalk.i64_in]); (try simp (disch := omega) only [IntWalk.u64_in]); first | (refine hK _ ?_; clear hK K) | (apply Exists.intro; refine ⟨fun x => ?_, hK _ ?_⟩; (first | fail); clear hK K))) | ((first | apply gAsk_no1 | apply gAsk_no2); kernel_rfl; intro K hK; simp [go_sem]; refine hK _ ?_; clear hK K) | (apply gAsk_part; kernel_rfl; all_goals (intro h K hK; (try simp only [Bool.not_true] at h); (try simp only [Bool.not_false] at h); (try simp only [decide_eq_true_eq] at h); (try simp only [decide_eq_false_iff_not] at h); first | (exfalso; first | contradiction | omega) | (go_simp; (try (simp only [↓IntWalk.iteOmega]; try go_simp)); (try simp (disch := omega) only [IntWalk.i64_in]); (try simp (disch := omega) only [IntWalk.u64_in]); first | (refine hK _ ?_; clear hK K) | (apply Exists.intro; refine ⟨fun x => ?_, hK _ ?_⟩; (first | fail); clear hK K))))))); all_goals ((apply gLex_end); intro x))
            go_wp2_with fail
            ((first | refine wp_region_gen (by kernel_rfl) (by kernel_rfl) ?_); (repeat' (first | (refine gLex_val0 rfl (by kernel_rfl) (fun K hK => ?_); (go_simp; (try (simp only [↓IntWalk.iteOmega]; try go_simp)); (try simp (disch := omega) only [IntWalk.i64_in]); (try simp (disch := omega) only [IntWalk.u64_in]); first | (refine hK _ ?_; clear hK K) | (apply Exists.intro; refine ⟨fun x => ?_, hK _ ?_⟩; (first | fail); clear hK K))) | (refine gLex_undef rfl rfl rfl (by kernel_rfl) (fun K hK => ?_); go_simp; refine hK _ ?_; clear hK K) | (refine gLex_ask rfl rfl rfl ?_; first | (apply gAsk_yes; kernel_rfl; intro K hK; (go_simp; (try (simp only [↓IntWalk.iteOmega]; try go_simp)); (try simp (disch := omega) only [IntWalk.i64_in]); (try simp (disch := omega) only [IntWalk.u64_in]); first | (refine hK _ ?_; clear hK K) | (apply Exists.intro; refine ⟨fun x => ?_, hK _ ?_⟩; (first | fail); clear hK K))) | ((first | apply gAsk_no1 | apply gAsk_no2); kernel_rfl; intro K hK; simp [go_sem]; refine hK _ ?_; clear hK K) | (apply gAsk_part; kernel_rfl; all_goals (intro h K hK; (try simp only [Bool.not_true] at h); (try simp only [Bool.not_false] at h); (try simp only [decide_eq_true_eq] at h); (try simp only [decide_eq_false_iff_not] at h); first | (exfalso; first | contradiction | omega) | (go_simp; (try (simp only [↓IntWalk.iteOmega]; try go_simp)); (try simp (disch := omega) only [IntWalk.i64_in]); (try simp (disch := omega) only [IntWalk.u64_in]); first | (refine hK _ ?_; clear hK K) | (apply Exists.intro; refine ⟨fun x => ?_, hK _ ?_⟩; (first | fail); clear hK K))))))); all_goals ((apply gLex_end); intro x))
            go_wp2_with (at_builtin; refine wp_appF elemInt rfl _ _ rfl L.length (some ad) (nv L) rfl ((HRO.out.grows GG).rd) (fun _ => by cases ‹some ad = none›) _ _ _ rfl inferInstance rfl (by omega) ?_; intro A5 c5 y5 ho5; have HO5 := hide ho5; clear ho5)
            have hG : Grows y.now y5.now := GG
            have hown : Own y5.now 0 3 1 A5 (L ++ [q]).length c5 (nv (L ++ [q])) := by
              have := HO5.out.base (Nat.zero_le _)
              rw [show nv (L ++ [q]) = nv L ++ [.int .i64 (q : Int)] by simp [nv], List.length_append, List.length_singleton]
              exact this
            obtain ⟨cs9, harr9⟩ := (HI.out.grow hG).arr
            have hp9 := (HI.out.grow hG).put hxN hown
            have hx9 := (HO.out.grow hG).other (v := xt) harr9 (Ne.symm HNE.out) (.slice A5 (L ++ [q]).length c5)
            have ht9 := (HT.out.grows hG).set (p := ⟨gi_, xt, none⟩) (.inl (by rw [HSD.out]; exact .inr rfl)) (.slice A5 (L ++ [q]).length c5)
            rw [List.length_append, List.length_singleton] at hp9 hx9 ht9
            refine ⟨⟨q + 1, by omega, by go_num, hide ht9, hide ?_, hide ?_⟩, by simp [Go.RowKit.intOf]; omega⟩
            · refine hx9.congr (fun v9 _ => ?_)
              rw [upL_no (by rw [HUF.out]; rw [decide_eq_true hdd]; simp)]
            · refine hp9.congr (fun v9 _ => ?_)
              by_cases e9 : v9 = xt
              · rw [if_pos e9, upL_yes (by rw [HUT.out, e9]; simp; omega), e9, ← HL.out]
              · rw [if_neg e9, upL_no (by rw [HUT.out, decide_eq_false (fun e => e9 e.symm)]; rfl)]
        · skip
          obtain ⟨Ar, cr, mr, hro⟩ := HO.out.row huN
          have hrl2 := upL_len r S false u q
          have hrc := hro.capH
          have HRO := hide hro
          have hdd : ¬ gn r xt < gn r u := hd
          clear hro hd
          generalize gn r xt = rx at *
          generalize gn r u = ru at *
          obtain ⟨L, hL⟩ : ∃ L, L = upL r S false u q := ⟨_, rfl⟩
          rw [← hL] at mr HRO hrl2 hrc
          have HL := hide hL
          clear hL
          cases Ar with
          | none =>
            have h0 := HRO.out.nilH rfl
            have hc0 : cr = 0 := by
              rcases HRO.out.2 with ⟨h1, _⟩ | ⟨_, _, _, h1, _⟩
              · injection h1
              · injection h1 with h1; cases h1
            have hL0 : L = [] := List.eq_nil_of_length_eq_zero h0
            subst hL0 hc0
            clear h0 hrc hrl2
            go_wp2_with fail
            ((first | refine wp_region_gen (by kernel_rfl) (by kernel_rfl) ?_); (repeat' (first | (refine gLex_val0 rfl (by kernel_rfl) (fun K hK => ?_); (go_simp; (try (simp only [↓IntWalk.iteOmega]; try go_simp)); (try simp (disch := omega) only [IntWalk.i64_in]); (try simp (disch := omega) only [IntWalk.u64_in]); first | (refine hK _ ?_; clear hK K) | (apply Exists.intro; refine ⟨fun x => ?_, hK _ ?_⟩; (first | fail); clear hK K))) | (refine gLex_undef rfl rfl rfl (by kernel_rfl) (fun K hK => ?_); go_simp; refine hK _ ?_; clear hK K) | (refine gLex_ask rfl rfl rfl ?_; first | (apply gAsk_yes; kernel_rfl; intro K hK; (go_simp; (try (simp only [↓IntWalk.iteOmega]; try go_simp)); (try simp (disch := omega) only [IntWalk.i64_in]); (try simp (disch := omega) only [IntWalk.u64_in]); first | (refine hK _ ?_; clear hK K) | (apply Exists.intro; refine ⟨fun x => ?_, hK _ ?_⟩; (first | fail); clear hK K))) | ((first | apply gAsk_no1 | apply gAsk_no2); kernel_rfl; intro K hK; simp [go_sem]; refine hK _ ?_; clear hK K) | (apply gAsk_part; kernel_rfl; all_goals (intro h K hK; (try simp only [Bool.not_true] at h); (try simp only [Bool.not_false] at h); (try simp only [decide_eq_true_eq] at h); (try simp only [decide_eq_false_iff_not] at h); first | (exfalso; first | contradiction | omega) | (go_simp; (try (simp only [↓IntWalk.iteOmega]; try go_simp)); (try simp (disch := omega) only [IntWalk.i64_in]); (try simp (disch := omega) only [IntWalk.u64_in]); first | (refine hK _ ?_; clear hK K) | (apply Exists.intro; refine ⟨fun x => ?_, hK _ ?_⟩; (first | fail); clear hK K))))))); all_goals ((apply gLex_end); intro x))
            go_wp2_with fail
            ((first | refine wp_region_gen (by kernel_rfl) (by kernel_rfl) ?_); (repeat' (first | (refine gLex_val0 rfl (by kernel_rfl) (fun K hK => ?_); (go_simp; (try (simp only [↓IntWalk.iteOmega]; try go_simp)); (try simp (disch := omega) only [IntWalk.i64_in]); (try simp (disch := omega) only [IntWalk.u64_in]); first | (refine hK _ ?_; clear hK K) | (apply Exists.intro; refine ⟨fun x => ?_, hK _ ?_⟩; (first | fail); clear hK K))) | (refine gLex_undef rfl rfl rfl (by kernel_rfl) (fun K hK => ?_); go_simp; refine hK _ ?_; clear hK K) | (refine gLex_ask rfl rfl rfl ?_; first | (apply gAsk_yes; kernel_rfl; intro K hK; (go_simp; (try (simp only [↓IntWalk.iteOmega]; try go_simp)); (try simp (disch := omega) only [IntWalk.i64_in]); (try simp (disch := omega) only [IntWalk.u64_in]); first | (refine hK _ ?_; clear hK K) | (apply Exists.intro; refine ⟨fun x => ?_, hK _ ?_⟩; (first | fail); clear hK K))) | ((first | apply gAsk_no1 | apply gAsk_no2); kernel_rfl; intro K hK; simp [go_sem]; refine hK _ ?_; clear hK K) | (apply gAsk_part; kernel_rfl; all_goals (intro h K hK; (try simp only [Bool.not_true] at h); (try simp only [Bool.not_false] at h); (try simp only [decide_eq_true_eq] at h); (try simp only [decide_eq_false_iff_not] at h); first | (exfalso; first | contradiction | omega) | (go_simp; (try (simp only [↓IntWalk.iteOmega]; try go_simp)); (try simp (disch := omega) only [IntWalk.i64_in]); (try simp (disch := omega) only [IntWalk.u64_in]); first | (refine hK _ ?_; clear hK K) | (apply Exists.intro; refine ⟨fun x => ?_, hK _ ?_⟩; (first | fail); clear hK K))))))); all_goals ((apply gLex_end); intro x))
            go_wp2_with (at_builtin; refine wp_appF elemInt rfl _ _ rfl 0 none [] rfl ⟨rfl, fun h => absurd h (by omega)⟩ (fun _ => rfl) _ _ _ rfl inferInstance rfl (by omega) ?_; intro A5 c5 y5 ho5; have HO5 := hide ho5; clear ho5)
            have hG : Grows y.now y5.now := GG
            have hown : Own y5.now 0 3 1 A5 ([] ++ [q]).length c5 (nv ([] ++ [q])) := by
              have := HO5.out.base (Nat.zero_le _)
              rw [show nv ([] ++ [q]) = nv [] ++ [.int .i64 (q : Int)] by simp [nv], List.length_append, List.length_singleton]
              exact this
            obtain ⟨cs9, harr9⟩ := (HO.out.grow hG).arr
            have hp9 := (HO.out.grow hG).put huN hown
            have hx9 := (HI.out.grow hG).other (v := u) harr9 HNE.out (.slice A5 ([] ++ [q]).length c5)
            have ht9 := (HT.out.grows hG).set (p := ⟨go, u, none⟩) (.inl (by rw [HSD.out]; exact .inl rfl)) (.slice A5 ([] ++ [q]).length c5)
            rw [List.length_append, List.length_singleton] at hp9 hx9 ht9
            refine ⟨⟨q + 1, by omega, by go_num, hide ht9, hide ?_, hide ?_⟩, by simp [Go.RowKit.intOf]; omega⟩
            · refine hp9.congr (fun v9 _ => ?_)
              by_cases e9 : v9 = u
              · rw [if_pos e9, upL_yes (by rw [HUF.out, e9]; simp; omega), e9, ← HL.out]
              · rw [if_neg e9, upL_no (by rw [HUF.out, decide_eq_false (fun e => e9 e.symm)]; rfl)]
            · refine hx9.congr (fun v9 _ => ?_)
              rw [upL_no (by rw [HUT.out]; rw [decide_eq_false hdd, Bool.and_false])]
          | some ad =>
            go_wp2_with fail
            ((first | refine wp_region_gen (by kernel_rfl) (by kernel_rfl) ?_); (repeat' (first | (refine gLex_val0 rfl (by kernel_rfl) (fun K hK => ?_); (go_simp; (try (simp only [↓IntWalk.iteOmega]; try go_simp)); (try simp (disch := omega) only [IntWalk.i64_in]); (try simp (disch := omega) only [IntWalk.u64_in]); first | (refine hK _ ?_; clear hK K) | (apply Exists.intro; refine ⟨fun x => ?_, hK _ ?_⟩; (first | fail); clear hK K))) | (refine gLex_undef rfl rfl rfl (by kernel_rfl) (fun K hK => ?_); go_simp; refine hK _ ?_; clear hK K) | (refine gLex_ask rfl rfl rfl ?_; first | (apply gAsk_yes; kernel_rfl; intro K hK; (go_simp; (try (simp only [↓IntWalk.iteOmega]; try go_simp)); (try simp (disch := omega) only [IntWalk.i64_in]); (try simp (disch := omega) only [IntWalk.u64_in]); first | (refine hK _ ?_; clear hK K) | (apply Exists.intro; refine ⟨fun x => ?_, hK _ ?_⟩; (first | fail); clear hK K))) | ((first | apply gAsk_no1 | apply gAsk_no2); kernel_rfl; intro K hK; simp [go_sem]; refine hK _ ?_; clear hK K) | (apply gAsk_part; kernel_rfl; all_goals (intro h K hK; (try simp only [Bool.not_true] at h); (try simp only [Bool.not_false] at h); (try simp only [decide_eq_true_eq] at h); (try simp only [decide_eq_false_iff_not] at h); first | (exfalso; first | contradiction | omega) | (go_simp; (try (simp only [↓IntWalk.iteOmega]; try go_simp)); (try simp (disch := omega) only [IntWalk.i64_in]); (try simp (disch := omega) only [IntWalk.u64_in]); first | (refine hK _ ?_; clear hK K) | (apply Exists.intro; refine ⟨fun x => ?_, hK _ ?_⟩; (first | fail); clear hK K))))))); all_goals ((apply gLex_end); intro x))
            go_wp2_with fail
            ((first | refine wp_region_gen (by kernel_rfl) (by kernel_rfl) ?_); (repeat' (first | (refine gLex_val0 rfl (by kernel_rfl) (fun K hK => ?_); (go_simp; (try (simp only [↓IntWalk.iteOmega]; try go_simp)); (try simp (disch := omega) only [IntWalk.i64_in]); (try simp (disch := omega) only [IntWalk.u64_in]); first | (refine hK _ ?_; clear hK K) | (apply Exists.intro; refine ⟨fun x => ?_, hK _ ?_⟩; (first | fail); clear hK K))) | (refine gLex_undef rfl rfl rfl (by kernel_rfl) (fun K hK => ?_); go_simp; refine hK _ ?_; clear hK K) | (refine gLex_ask rfl rfl rfl ?_; first | (apply gAsk_yes; kernel_rfl; intro K hK; (go_simp; (try (simp only [↓IntWalk.iteOmega]; try go_simp)); (try simp (disch := omega) only [IntWalk.i64_in]); (try simp (disch := omega) only [IntWalk.u64_in]); first | (refine hK _ ?_; clear hK K) | (apply Exists.intro; refine ⟨fun x => ?_, hK _ ?_⟩; (first | fail); clear hK K))) | ((first | apply gAsk_no1 | apply gAsk_no2); kernel_rfl; intro K hK; simp [go_sem]; refine hK _ ?_; clear hK K) | (apply gAsk_part; kernel_rfl; all_goals (intro h K hK; (try simp only [Bool.not_true] at h); (try simp only [Bool.not_false] at h); (try simp only [decide_eq_true_eq] at h); (try simp only [decide_eq_false_iff_not] at h); first | (exfalso; first | contradiction | omega) | (go_simp; (try (simp only [↓IntWalk.iteOmega]; try go_simp)); (try simp (disch := omega) only [IntWalk.i64_in]); (try simp (disch := omega) only [IntWalk.u64_in]); first | (refine hK _ ?_; clear hK K) | (apply Exists.intro; refine ⟨fun x => ?_, hK _ ?_⟩; (first | fail); clear hK K))))))); all_goals ((apply gLex_end); intro x))
            go_wp2_with (at_builtin; refine wp_appF elemInt rfl _ _ rfl L.length (some ad) (nv L) rfl ((HRO.out.grows GG).rd) (fun _ => by cases ‹some ad = none›) _ _ _ rfl inferInstance rfl (by omega) ?_; intro A5 c5 y5 ho5; have HO5 := hide ho5; clear ho5)
            have hG : Grows y.now y5.now := GG
            have hown : Own y5.now 0 3 1 A5 (L ++ [q]).length c5 (nv (L ++ [q])) := by
              have := HO5.out.base (Nat.zero_le _)
              rw [show nv (L ++ [q]) = nv L ++ [.int .i64 (q : Int)] by simp [nv], List.length_append, List.length_singleton]
              exact this
            obtain ⟨cs9, harr9⟩ := (HO.out.grow hG).arr
            have hp9 := (HO.out.grow hG).put huN hown
            have hx9 := (HI.out.grow hG).other (v := u) harr9 HNE.out (.slice A5 (L ++ [q]).length c5)
            have ht9 := (HT.out.grows hG).set (p := ⟨go, u, none⟩) (.inl (by rw [HSD.out]; exact .inl rfl)) (.slice A5 (L ++ [q]).length c5)
            rw [List.length_append, List.length_singleton] at hp9 hx9 ht9
            refine ⟨⟨q + 1, by omega, by go_num, hide ht9, hide ?_, hide ?_⟩, by simp [Go.RowKit.intOf]; omega⟩
            · refine hp9.congr (fun v9 _ => ?_)
              by_cases e9 : v9 = u
              · rw [if_pos e9, upL_yes (by rw [HUF.out, e9]; simp; omega), e9, ← HL.out]
              · rw [if_neg e9, upL_no (by rw [HUF.out, decide_eq_false (fun e => e9 e.symm)]; rfl)]
            · refine hx9.congr (fun v9 _ => ?_)
              rw [upL_no (by rw [HUT.out]; rw [decide_eq_false hdd, Bool.and_false])]
      · obtain rfl : q = n2 := by omega
        have AB2 := hide ab
        go_wp2_with fail
        have nS2 : ∀ j, j ≠ go ∧ j ≠ gi_ → ¬ SS j := fun j h1 e => by
          rw [HSD.out] at e
          rcases e with e | e
          · exact h1.1 e
          · exact h1.2 e
        have o1 := H1.out.touch HT.out (fun p hp => nS2 _ (HND.out.1 p hp))
        have o2 := H3.out.1.touch HT.out (fun p hp => nS2 _ (HND.out.2.1 p hp))
        have o3 := H3.out.2.touch HT.out (fun p hp => nS2 _ (HND.out.2.2 p hp))
        have hab := AB2.out
        have hoo := HO.out
        have hii := HI.out
        have hcs := o3.capH
        rw [HN.out] at hab o1
        rw [HN2.out] at hab o3 hoo hii hcs
        exact bodyPost_ret (v := .tuple #[.pointer (some ⟨b, 0, none⟩), .int .i64 0]) (by simp [results, Try.results40, go_sem]) rfl ⟨b, rfl, ⟨Ag, cg, Br, dr, As, cs, go, gi_, hab, o1.rd, o2.rd, o3.rd, hcs, hoo, hii, o1, o2, o3⟩, y.grows⟩
end Go.Proofs.Ytgplpgldhoelcaa

