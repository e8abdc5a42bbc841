/- Walk: a simple way shares with itself all that it weighs, leaves itself nowhere, and goes with another one for as long as it shares with it. -/
import Derived.Test.YtpnncadglhlclaaSelfPlain
import Derived.Test.YtpnncadglhlclaaSimple
import Derived.Test.YtpnncadglhlclaaShUnion
import Derived.Test.YtpnncadglhlclaaSharePlaces
namespace Go.Proofs.Ytpnncadglhlclaa
open Go Go.RowKit Go.Maps
theorem Rd.one {W : World} {p : Nat} {v : Value} (h : Holds W ⟨p, 0, none⟩ v) : Rd W (some ⟨p, 0, none⟩) 1 1 [v] :=
  ⟨rfl, fun _ _ => ⟨p, 0, rfl, fun j u hu => by
    have hj : j = 0 := by have := (List.getElem?_eq_some_iff.1 hu).1; simpa using this
    subst hj
    simp at hu
    subst hu
    exact h.cell⟩⟩
theorem Rd.two {W : World} {p : Nat} {v u : Value} (h : Holds W ⟨p, 0, none⟩ v) (h2 : Holds W ⟨p, 1, none⟩ u) : Rd W (some ⟨p, 0, none⟩) 1 2 [v, u] :=
  ⟨rfl, fun _ _ => ⟨p, 0, rfl, fun j x hx => by
    have hj : j < 2 := by have := (List.getElem?_eq_some_iff.1 hx).1; simpa using this
    match j, hj with
    | 0, _ => simp at hx; subst hx; exact h.cell
    | 1, _ => simp at hx; subst hx; exact h2.cell⟩⟩
theorem Rd.part {W : World} {b off n : Nat} {k : IntKind} {l : List Int} (h : Rd W (some ⟨b, off, none⟩) 1 n (l.map (.int k))) (a e : Nat) (he : a + e ≤ n) : Rd W (some ⟨b, off + a, none⟩) 1 e (((l.drop a).take e).map (.int k)) := by
  have hl := h.len
  simp at hl
  refine ⟨by simp; omega, fun h1 h2 => ?_⟩
  obtain ⟨b', off', e', hc⟩ := h.at_ (by omega)
  injection e' with e'
  injection e' with e1 e2
  subst e1 e2
  refine ⟨b, off + a, rfl, fun i u hu => ?_⟩
  have hi : i < e := by
    rcases Nat.lt_or_ge i e with h | h
    · exact h
    · rw [List.getElem?_eq_none (by simp; omega)] at hu; cases hu
  rw [List.map_take, List.getElem?_take, if_pos hi, List.map_drop, List.getElem?_drop] at hu
  have := hc (a + i) u hu
  rwa [← Nat.add_assoc] at this
set_option maxRecDepth 20000 in
set_option maxHeartbeats 8000000 in
theorem shareSelfW (N : Int) (A : Option Addr) (mg c : Nat) (E : List Edg) (s : Int) (B : Option Addr) (n d : Nat) (l : List Int) (B' : Option Addr) (n' d' : Nat) (o : List Int) (w : World)
    (_ : I64 N) (_ : mg ≤ c) (h : Rd w A 3 mg (esCells E)) (_ : ∀ k, k < mg → edgOk (ge E k)) (_ : I64 s) (hnd : n ≤ d ∧ (B = none → n = 0 ∧ d = 0)) (ha : Rd w B 1 n (l.map (.int .i64))) (hwf : ∀ z ∈ l, (Lit.int .i64 z).wf = true) (hnd' : n' ≤ d') (hb : Rd w B' 1 n' (o.map (.int .i64))) (hwf' : ∀ z ∈ o, (Lit.int .i64 z).wf = true) :
    Calls Try.prog 12 #[.agg #[.int .i64 N, .slice A mg c], .int .i64 s, .slice B n d, .slice B' n' d'] w fun e w' => e = .returned (.bool true) ∧ Grows w w' := by
  have hla : l.length = n := by simpa using ha.len
  have hlb : o.length = n' := by simpa using hb.len
  have C1 := fun W => lLight N A mg c W
  cases h1 : lightG N mg with
  | false =>
    rw [h1] at C1
    have H1 := hide C1
    clear C1 h1 h ha hb hla hlb hwf hwf' hnd
    go_enter Try.func12, Try.ntmps12
    go_wp2_with (first | (go_at_call 49; refine (H1.out _).mono ?_; rintro e w' ⟨rfl, hg⟩; (first | obtain ⟨x, rfl⟩ := Grows.later2 hg | obtain ⟨x, rfl⟩ := Grows.later hg); clear hg) | (go_at_call 51; refine (alive26 _).mono ?_; rintro e w' ⟨rfl, hg⟩; (first | obtain ⟨x, rfl⟩ := Grows.later2 hg | obtain ⟨x, rfl⟩ := Grows.later hg); clear hg))
    go_ret
    exact ⟨rfl, (by repeat (first | exact Grows.refl _ | refine Grows.now ?_ _ | refine Grows.new ?_ _ | refine Grows.drewN ?_ _ | refine Grows.drew ?_ | assumption | (refine Grows.set ?_ (by first | omega | (simp; done) | (simp; omega)) _)))⟩
  | true =>
  have q1 : (N ≤ 100 ∨ 4096 < N) ∧ mg ≤ 300 := of_decide_eq_true h1
  rw [h1] at C1
  have H1 := hide C1
  clear C1 h1
  by_cases h2 : (60 : Int) < n
  · clear h ha hb hla hlb hwf hwf' hnd
    go_enter Try.func12, Try.ntmps12
    go_wp2_with (first | (go_at_call 49; refine (H1.out _).mono ?_; rintro e w' ⟨rfl, hg⟩; (first | obtain ⟨x, rfl⟩ := Grows.later2 hg | obtain ⟨x, rfl⟩ := Grows.later hg); clear hg) | (go_at_call 51; refine (alive26 _).mono ?_; rintro e w' ⟨rfl, hg⟩; (first | obtain ⟨x, rfl⟩ := Grows.later2 hg | obtain ⟨x, rfl⟩ := Grows.later hg); clear hg))
    go_ret
    exact ⟨rfl, (by repeat (first | exact Grows.refl _ | refine Grows.now ?_ _ | refine Grows.new ?_ _ | refine Grows.drewN ?_ _ | refine Grows.drew ?_ | assumption | (refine Grows.set ?_ (by first | omega | (simp; done) | (simp; omega)) _)))⟩
  by_cases h3 : (60 : Int) < n'
  · clear h ha hb hla hlb hwf hwf' hnd
    go_enter Try.func12, Try.ntmps12
    go_wp2_with (first | (go_at_call 49; refine (H1.out _).mono ?_; rintro e w' ⟨rfl, hg⟩; (first | obtain ⟨x, rfl⟩ := Grows.later2 hg | obtain ⟨x, rfl⟩ := Grows.later hg); clear hg) | (go_at_call 51; refine (alive26 _).mono ?_; rintro e w' ⟨rfl, hg⟩; (first | obtain ⟨x, rfl⟩ := Grows.later2 hg | obtain ⟨x, rfl⟩ := Grows.later hg); clear hg))
    go_ret
    exact ⟨rfl, (by repeat (first | exact Grows.refl _ | refine Grows.now ?_ _ | refine Grows.new ?_ _ | refine Grows.drewN ?_ _ | refine Grows.drew ?_ | assumption | (refine Grows.set ?_ (by first | omega | (simp; done) | (simp; omega)) _)))⟩
  have C2 := fun (W : World) (g : Grows w W) => r8Simple N A mg c E s B n d l W (h.grows g) (by omega) (ha.grows g) (by omega)
  cases h4 : simB N E s l with
  | false =>
    rw [h4] at C2
    have H2 := hide C2
    clear C2 h4 h ha hb hla hlb hwf hwf' hnd
    go_enter Try.func12, Try.ntmps12
    go_wp2_with (first | (go_at_call 49; refine (H1.out _).mono ?_; rintro e w' ⟨rfl, hg⟩; (first | obtain ⟨x, rfl⟩ := Grows.later2 hg | obtain ⟨x, rfl⟩ := Grows.later hg); clear hg) | (go_at_call 48; refine (H2.out _ (by repeat (first | exact Grows.refl _ | refine Grows.now ?_ _ | refine Grows.new ?_ _ | refine Grows.drewN ?_ _ | refine Grows.drew ?_ | assumption | (refine Grows.set ?_ (by first | omega | (simp; done) | (simp; omega)) _)))).mono ?_; rintro e w' ⟨rfl, hg⟩; (first | obtain ⟨x, rfl⟩ := Grows.later2 hg | obtain ⟨x, rfl⟩ := Grows.later hg); clear hg) | (go_at_call 51; refine (alive26 _).mono ?_; rintro e w' ⟨rfl, hg⟩; (first | obtain ⟨x, rfl⟩ := Grows.later2 hg | obtain ⟨x, rfl⟩ := Grows.later hg); clear hg))
    go_ret
    exact ⟨rfl, (by repeat (first | exact Grows.refl _ | refine Grows.now ?_ _ | refine Grows.new ?_ _ | refine Grows.drewN ?_ _ | refine Grows.drew ?_ | assumption | (refine Grows.set ?_ (by first | omega | (simp; done) | (simp; omega)) _)))⟩
  | true =>
  rw [h4] at C2
  have H2 := hide C2
  have hsim : isB N E s l = true ∧ oneB (nodesL N E s l) (nodesL N E s l).length = true := by unfold simB at h4; simpa using h4
  have he : edgesB N E l = true := by
    have := hsim.1
    unfold isB at this
    simp only [Bool.and_eq_true] at this
    exact this.1
  have hone : ∀ k, k < l.length → gi l k ∉ l.take k := by
    refine edges_unlike (E := E) (s := s) (l := l) fun i hi => ?_
    have h5 := of_decide_eq_true hsim.2
    have e5 : nodesL N E s l = ndL E s l (l.length + 1) := by unfold nodesL; rw [hsim.1]; rfl
    rw [e5, ndL_len] at h5
    exact h5 i hi
  have hl60 : l.length ≤ 60 := by omega
  have C3 := fun (W : World) (g : Grows w W) => r8Weight N A mg c E B n d l W (h.grows g) (by omega) (ha.grows g) (by omega)
  have HI := hide (fun j (hj : j < n) => (show I64 (gi l j) from wf_i64 (hwf _ (gi_mem (by omega)))))
  have HJ := hide (fun j (hj : j < n') => (show I64 (gi o j) from wf_i64 (hwf' _ (gi_mem (by omega)))))
  have C4 := fun (W : World) (g : Grows w W) (p : Nat) (hp : Holds W ⟨p, 0, none⟩ (.slice B n d)) => shWith N A mg c E B n d l (some ⟨p, 0, none⟩) 1 1 [⟨B, n, d, l⟩] W (h.grows g) (by omega) (ha.grows g) (by omega) (Rd.one hp) (by omega)
    (fun k hk => by have hk0 : k = 0 := by simpa using hk
                    subst hk0; exact ⟨ha.grows g, hnd.1⟩) (fun k hk => by have hk0 : k = 0 := by omega
                                                                          subst hk0; show n ≤ 1000000; omega)
  have C5 := fun (W : World) (g : Grows w W) (p : Nat) (hp : Holds W ⟨p, 0, none⟩ (.slice B n d)) => shLeaves (.agg #[.int .i64 N, .slice A mg c]) N A mg c rfl B n d l (some ⟨p, 0, none⟩) 1 1 [⟨B, n, d, l⟩] W (ha.grows g) (by omega) HI.out (Rd.one hp) (by omega)
    (fun k hk => by have hk0 : k = 0 := by omega
                    subst hk0; exact ⟨ha.grows g, (show n ≤ 1000000 by omega), HI.out⟩)
  have C6 := fun (W : World) (g : Grows w W) (p : Nat) (hp : Holds W ⟨p, 0, none⟩ (.slice B n d)) (hp2 : Holds W ⟨p, 1, none⟩ (.slice B n d)) => shUnion N A mg c E (some ⟨p, 0, none⟩) 2 2 [⟨B, n, d, l⟩, ⟨B, n, d, l⟩] W (h.grows g) (by omega) (Rd.two hp hp2) (by omega)
    (fun k hk => by
      have hk0 : k = 0 ∨ k = 1 := by omega
      rcases hk0 with rfl | rfl
      · exact ⟨ha.grows g, (show n ≤ 60 by omega), hnd.2⟩
      · exact ⟨ha.grows g, (show n ≤ 60 by omega), hnd.2⟩)
  rw [he] at C3
  simp only [if_true] at C3
  rw [self_with (r := ⟨B, n, d, l⟩) (l := l) rfl he hone hl60] at C4
  rw [self_leaves (r := ⟨B, n, d, l⟩) (l := l) rfl n (by omega)] at C5
  rw [self_union (r := ⟨B, n, d, l⟩) (l := l) rfl hla.symm he hone] at C6
  have hwb := wtK_bd he l.length (Nat.le_refl _)
  have H3 := hide C3
  have H4 := hide C4
  have H5 := hide C5
  have H6 := hide C6
  clear C2 C3 C4 C5 C6 h4 hsim
  have C7 := fun (W : World) (g : Grows w W) => r8Weight N A mg c E B' n' d' o W (h.grows g) (by omega) (hb.grows g) (by omega)
  cases ho : edgesB N E o with
  | false =>
    rw [ho] at C7
    simp only [Bool.false_eq_true, if_false] at C7
    have H7 := hide C7
    clear C7 ho h ha hb hla hlb hwf hwf' hnd hone he
    generalize wtK E l l.length = wt at *
    go_enter Try.func12, Try.ntmps12
    go_wp2_with (first
      | (go_at_call 49; refine (H1.out _).mono ?_; rintro e w' ⟨rfl, hg⟩; obtain ⟨x1, rfl⟩ := hg.later; clear hg)
      | (go_at_call 48; refine (H2.out _ (by repeat (first | exact Grows.refl _ | refine Grows.now ?_ _ | refine Grows.new ?_ _ | refine Grows.drewN ?_ _ | refine Grows.drew ?_ | assumption | (refine Grows.set ?_ (by first | omega | (simp; done) | (simp; omega)) _)))).mono ?_; rintro e w' ⟨rfl, hg⟩; obtain ⟨x2, rfl⟩ := hg.later; clear hg)
      | (go_at_call_of 58 n; refine (H3.out _ (by repeat (first | exact Grows.refl _ | refine Grows.now ?_ _ | refine Grows.new ?_ _ | refine Grows.drewN ?_ _ | refine Grows.drew ?_ | assumption | (refine Grows.set ?_ (by first | omega | (simp; done) | (simp; omega)) _)))).mono ?_; rintro e w' ⟨rfl, hg⟩; obtain ⟨x3, rfl⟩ := hg.later; clear hg)
      | (go_at_call 59; refine (H4.out _ (by repeat (first | exact Grows.refl _ | refine Grows.now ?_ _ | refine Grows.new ?_ _ | refine Grows.drewN ?_ _ | refine Grows.drew ?_ | assumption | (refine Grows.set ?_ (by first | omega | (simp; done) | (simp; omega)) _))) _ inferInstance).mono ?_; rintro e w' ⟨rfl, hg⟩; obtain ⟨x4, rfl⟩ := hg.later; clear hg)
      | (go_at_call 54; refine (H5.out _ (by repeat (first | exact Grows.refl _ | refine Grows.now ?_ _ | refine Grows.new ?_ _ | refine Grows.drewN ?_ _ | refine Grows.drew ?_ | assumption | (refine Grows.set ?_ (by first | omega | (simp; done) | (simp; omega)) _))) _ inferInstance).mono ?_; rintro e w' ⟨A1, c1', rfl, _, hg⟩; obtain ⟨x5, rfl⟩ := hg.later; clear hg)
      | (go_at_call 56; refine (H6.out _ (by repeat (first | exact Grows.refl _ | refine Grows.now ?_ _ | refine Grows.new ?_ _ | refine Grows.drewN ?_ _ | refine Grows.drew ?_ | assumption | (refine Grows.set ?_ (by first | omega | (simp; done) | (simp; omega)) _))) _ inferInstance inferInstance).mono ?_; rintro e w' ⟨rfl, hg⟩; obtain ⟨x6, rfl⟩ := hg.later; clear hg)
      | (go_at_call 58; refine (H7.out _ (by repeat (first | exact Grows.refl _ | refine Grows.now ?_ _ | refine Grows.new ?_ _ | refine Grows.drewN ?_ _ | refine Grows.drew ?_ | assumption | (refine Grows.set ?_ (by first | omega | (simp; done) | (simp; omega)) _)))).mono ?_; rintro e w' ⟨rfl, hg⟩; obtain ⟨x7, rfl⟩ := hg.later; clear hg)
      | (go_at_call 51; refine (alive26 _).mono ?_; rintro e w' ⟨rfl, hg⟩; obtain ⟨x8, rfl⟩ := hg.later; clear hg))
    go_ret
    exact ⟨rfl, (by repeat (first | exact Grows.refl _ | refine Grows.now ?_ _ | refine Grows.new ?_ _ | refine Grows.drewN ?_ _ | refine Grows.drew ?_ | assumption | (refine Grows.set ?_ (by first | omega | (simp; done) | (simp; omega)) _)))⟩
  | true =>
  rw [ho] at C7
  simp only [if_true] at C7
  obtain ⟨s1, s2, s3, _⟩ := st_self E (fun z => decide (z ∈ o)) l l.length
  have HSt := hide (self_stretch he ho hone hl60)
  have C8 := fun (W : World) (g : Grows w W) => shStretches B n d l B' n' d' o W (ha.grows g) (by omega) HI.out (hb.grows g) (by omega) HJ.out
  have C9 := fun (W : World) (g : Grows w W) (p : Nat) (hp : Holds W ⟨p, 0, none⟩ (.slice B' n' d')) => shWith N A mg c E B n d l (some ⟨p, 0, none⟩) 1 1 [⟨B', n', d', o⟩] W (h.grows g) (by omega) (ha.grows g) (by omega) (Rd.one hp) (by omega)
    (fun k hk => by have hk0 : k = 0 := by simpa using hk
                    subst hk0; exact ⟨hb.grows g, hnd'⟩) (fun k hk => by have hk0 : k = 0 := by omega
                                                                         subst hk0; show n' ≤ 1000000; omega)
  rw [one_with (r := ⟨B', n', d', o⟩) (o := o) rfl] at C9
  unfold StPost at C8
  have hst60 : (stK (fun z => decide (z ∈ o)) l l.length).2.length ≤ 60 := by have := (stK_inv (fun z => decide (z ∈ o)) l l.length).1; omega
  generalize (stK (fun z => decide (z ∈ o)) l l.length).2 = L at *
  have HE2 : Hid (sharedV N E l o = svK E l L L.length) := by show _ = _; unfold svK; rw [List.take_length]; exact HSt.out.symm
  rw [HE2.out] at C9
  clear HSt HE2 s1
  have HSK := hide (svK_succ E l L)
  have HSB := hide (svK_bd he hl60 s2 s3)
  have HCh := hide (chain_at L 0 s2)
  have HL3 := hide (fun q (hq : q < L.length) => s3 (pg L q) (by have : pg L q = L[q] := by simp [pg, hq]
                                                                 rw [this]; exact List.getElem_mem hq))
  have HP := hide (fun (W : World) (g : Grows w W) (bb off : Nat) (hB : B = some ⟨bb, off, none⟩) (a e cc : Nat) (hae : a + e ≤ n) => r8Weight N A mg c E (some ⟨bb, off + a, none⟩) e cc ((l.drop a).take e) W (h.grows g) (by omega) (Rd.part (hB ▸ ha.grows g) a e hae) (by omega))
  have HPV := hide (fun (a e : Nat) (hae : a + e ≤ n) => (show edgesB N E ((l.drop a).take e) = true ∧ wtK E ((l.drop a).take e) ((l.drop a).take e).length = wtK E l (a + e) - wtK E l a from
    ⟨part_edges he a e, by rw [show ((l.drop a).take e).length = e by simp; omega]; exact wt_part E l a e (by omega)⟩))
  have H7 := hide C7
  have H8 := hide C8
  have H9 := hide C9
  have HBB := hide (show 0 < n → ∃ bb off, B = some ⟨bb, off, none⟩ from fun hn => by obtain ⟨bb, off, e, _⟩ := ha.at_ hn; exact ⟨bb, off, e⟩)
  have hnd1 := hnd.1
  have HWT := hide (wtK_mono he)
  clear C7 C8 C9 ho h ha hb hwf hwf' hnd hone he s2 s3
  have HLA := hide hla
  generalize hgt : wtK E l l.length = wt at *
  generalize hgo : wtK E o o.length = wo at *
  clear hgt hgo hla hlb hl60
  go_enter Try.func12, Try.ntmps12
  go_wp2_with (first
    | (go_at_call 49; refine (H1.out _).mono ?_; rintro e w' ⟨rfl, hg⟩; obtain ⟨x1, rfl⟩ := hg.later; clear hg)
    | (go_at_call 48; refine (H2.out _ (by repeat (first | exact Grows.refl _ | refine Grows.now ?_ _ | refine Grows.new ?_ _ | refine Grows.drewN ?_ _ | refine Grows.drew ?_ | assumption | (refine Grows.set ?_ (by first | omega | (simp; done) | (simp; omega)) _)))).mono ?_; rintro e w' ⟨rfl, hg⟩; obtain ⟨x2, rfl⟩ := hg.later; clear hg)
    | (go_at_call_of 58 n; refine (H3.out _ (by repeat (first | exact Grows.refl _ | refine Grows.now ?_ _ | refine Grows.new ?_ _ | refine Grows.drewN ?_ _ | refine Grows.drew ?_ | assumption | (refine Grows.set ?_ (by first | omega | (simp; done) | (simp; omega)) _)))).mono ?_; rintro e w' ⟨rfl, hg⟩; obtain ⟨x3, rfl⟩ := hg.later; clear hg)
    | (go_at_call 59; refine (H4.out _ (by repeat (first | exact Grows.refl _ | refine Grows.now ?_ _ | refine Grows.new ?_ _ | refine Grows.drewN ?_ _ | refine Grows.drew ?_ | assumption | (refine Grows.set ?_ (by first | omega | (simp; done) | (simp; omega)) _))) _ inferInstance).mono ?_; rintro e w' ⟨rfl, hg⟩; obtain ⟨x4, rfl⟩ := hg.later; clear hg)
    | (go_at_call 54; refine (H5.out _ (by repeat (first | exact Grows.refl _ | refine Grows.now ?_ _ | refine Grows.new ?_ _ | refine Grows.drewN ?_ _ | refine Grows.drew ?_ | assumption | (refine Grows.set ?_ (by first | omega | (simp; done) | (simp; omega)) _))) _ inferInstance).mono ?_; rintro e w' ⟨A1, c1', rfl, _, hg⟩; obtain ⟨x5, rfl⟩ := hg.later; clear hg)
    | (go_at_call 56; refine (H6.out _ (by repeat (first | exact Grows.refl _ | refine Grows.now ?_ _ | refine Grows.new ?_ _ | refine Grows.drewN ?_ _ | refine Grows.drew ?_ | assumption | (refine Grows.set ?_ (by first | omega | (simp; done) | (simp; omega)) _))) _ inferInstance inferInstance).mono ?_; rintro e w' ⟨rfl, hg⟩; obtain ⟨x6, rfl⟩ := hg.later; clear hg)
    | (go_at_call 58; refine (H7.out _ (by repeat (first | exact Grows.refl _ | refine Grows.now ?_ _ | refine Grows.new ?_ _ | refine Grows.drewN ?_ _ | refine Grows.drew ?_ | assumption | (refine Grows.set ?_ (by first | omega | (simp; done) | (simp; omega)) _)))).mono ?_; rintro e w' ⟨rfl, hg⟩; obtain ⟨x7, rfl⟩ := hg.later; clear hg)
    | (go_at_call 52; refine (H8.out _ (by repeat (first | exact Grows.refl _ | refine Grows.now ?_ _ | refine Grows.new ?_ _ | refine Grows.drewN ?_ _ | refine Grows.drew ?_ | assumption | (refine Grows.set ?_ (by first | omega | (simp; done) | (simp; omega)) _)))).mono ?_; rintro e w' ⟨B8, A8, c8, rfl, _, ho8, hg⟩; obtain ⟨x8, rfl⟩ := hg.later; have HO8 := hide ho8.rd; clear hg ho8))
  have hg8 : Grows w x8.now := by exact (by repeat (first | exact Grows.refl _ | refine Grows.now ?_ _ | refine Grows.new ?_ _ | refine Grows.drewN ?_ _ | refine Grows.drew ?_ | assumption | (refine Grows.set ?_ (by first | omega | (simp; done) | (simp; omega)) _)))
  have m4 : Holds x8.now ⟨w.heap.size, 0, none⟩ (.int .i64 N) := inferInstance
  have m5 : Holds x8.now ⟨w.heap.size, 1, none⟩ (.slice A mg c) := inferInstance
  go_loopw [15, 13] (fun i u wr => ∃ q : Nat, q ≤ L.length ∧ i = .int .i64 (q : Int) ∧ u = .int .u64 (svK E l L q) ∧ ∃ y : Later x8.now, wr = y.now) (fun i _ _ => L.length - (intOf i).toNat)
  case atStart => exact ⟨0, by omega, by go_num, rfl, ⟨_, Grows.refl _⟩, rfl⟩
  case round =>
    obtain ⟨q, hq, rfl, rfl, y, rfl⟩ := hrel
    by_cases hend : L.length ≤ q
    · have hqq : q = L.length := by omega
      subst hqq
      go_wp2_with (first
        | (go_at_call 59; refine (H9.out _ (by repeat (first | exact Grows.refl _ | refine Grows.now ?_ _ | refine Grows.new ?_ _ | refine Grows.drewN ?_ _ | refine Grows.drew ?_ | assumption | (refine Grows.set ?_ (by first | omega | (simp; done) | (simp; omega)) _))) _ inferInstance).mono ?_; rintro e w' ⟨rfl, hg⟩; obtain ⟨z4, rfl⟩ := hg.later; clear hg)
        | (go_at_call 51; refine (alive26 _).mono ?_; rintro e w' ⟨rfl, hg⟩; obtain ⟨z8, rfl⟩ := hg.later; clear hg))
      go_ret
      exact ⟨rfl, (by repeat (first | exact Grows.refl _ | refine Grows.now ?_ _ | refine Grows.new ?_ _ | refine Grows.drewN ?_ _ | refine Grows.drew ?_ | assumption | (refine Grows.set ?_ (by first | omega | (simp; done) | (simp; omega)) _)))⟩
    · obtain ⟨b3, off3, rfl, hc3⟩ := HO8.out.pairsH (by omega)
      obtain ⟨p1', p2'⟩ := hc3 q (by omega)
      obtain ⟨t1, t2, t3⟩ := HCh.out q (by omega)
      have t4 := HL3.out q (by omega)
      rw [HLA.out] at t4
      have HN := HSK.out q (by omega)
      obtain ⟨b1, b2⟩ := HSB.out q
      obtain ⟨b4, b5⟩ := HSB.out (q + 1)
      have p1 : Holds x8.now ⟨b3, off3 + q * 2, none⟩ (.int .i64 (pg L q).1) := p1'
      have p2 : Holds x8.now ⟨b3, off3 + q * 2 + 1, none⟩ (.int .i64 (pg L q).2) := p2'
      have p3 : 0 < q → Holds x8.now ⟨b3, off3 + (q - 1) * 2 + 1, none⟩ (.int .i64 (pg L (q - 1)).2) := fun h0 => (hc3 (q - 1) (by omega)).2
      clear hc3 p1' p2'
      generalize (pg L q).1 = u at *
      generalize (pg L q).2 = v at *
      obtain ⟨a, rfl⟩ := Int.eq_ofNat_of_zero_le t1
      obtain ⟨e, rfl⟩ : ∃ e : Nat, v = (a : Int) + (e : Int) := ⟨(v - a).toNat, by omega⟩
      have he0 : 0 < e := by omega
      have hae : a + e ≤ n := by omega
      obtain ⟨bb, off, rfl⟩ := HBB.out (by omega)
      obtain ⟨v1, v2⟩ := HPV.out a e hae
      have D1 := fun (W : World) (g : Grows w W) => HP.out W g bb off rfl a e (d - a) hae
      rw [v1, v2] at D1
      simp only [if_true] at D1
      rw [show ((a : Int) + (e : Int)).toNat = a + e by omega, show ((a : Int)).toNat = a by omega] at HN
      have hdif : 0 ≤ wtK E l (a + e) - wtK E l a := by have := HWT.out a e (by rw [HLA.out]; exact hae); omega
      generalize wtK E l (a + e) - wtK E l a = wd at *
      rw [HN] at b5
      have HN2 := hide HN
      generalize svK E l L q = sv at *
      have K1 := hide D1
      clear D1 HN v1 v2 b4 t1 t2
      have had : a + e ≤ d := by omega
      have htn : ((a : Int) + (e : Int)).toNat = a + e := by omega
      have hd1 : decide ((a : Int) < 0) = false := decide_eq_false (by omega)
      have hd2 : decide ((n : Int) < (a : Int) + (e : Int)) = false := decide_eq_false (by omega)
      have hd3 : decide ((a : Int) + (e : Int) ≤ (a : Int)) = false := decide_eq_false (by omega)
      rcases Nat.eq_zero_or_pos q with hq0 | hq0
      · have hd4 : decide (0 < q) = false := decide_eq_false (by omega)
        clear p3 t3 hq0
        go_wp2_with fail
        ((first | refine wp_region_gen (by kernel_rfl) (by kernel_rfl) ?_); (repeat' (first | (refine gLex_val0 rfl (by kernel_rfl) (fun K hK => ?_); (go_simp; (try (simp only [↓IntWalk.iteOmega]; try go_simp)); (try simp (disch := omega) only [IntWalk.i64_in]); (try simp (disch := omega) only [IntWalk.u64_in]); first | (refine hK _ ?_; clear hK K) | (apply Exists.intro; refine ⟨fun x => ?_, hK _ ?_⟩; (first | fail); clear hK K))) | (refine gLex_undef rfl rfl rfl (by kernel_rfl) (fun K hK => ?_); go_simp; refine hK _ ?_; clear hK K) | (refine gLex_ask rfl rfl rfl ?_; first | (apply gAsk_yes; kernel_rfl; intro K hK; (go_simp; (try (simp only [↓IntWalk.iteOmega]; try go_simp)); (try simp (disch := omega) only [IntWalk.i64_in]); (try simp (disch := omega) only [IntWalk.u64_in]); first | (refine hK _ ?_; clear hK K) | (apply Exists.intro; refine ⟨fun x => ?_, hK _ ?_⟩; (first | fail); clear hK K))) | ((first | apply gAsk_no1 | apply gAsk_no2); kernel_rfl; intro K hK; simp [go_sem]; refine hK _ ?_; clear hK K) | (apply gAsk_part; kernel_rfl; all_goals (intro h K hK; (try simp only [Bool.not_true] at h); (try simp only [Bool.not_false] at h); (try simp only [decide_eq_true_eq] at h); (try simp only [decide_eq_false_iff_not] at h); first | (exfalso; first | contradiction | omega) | (go_simp; (try (simp only [↓IntWalk.iteOmega]; try go_simp)); (try simp (disch := omega) only [IntWalk.i64_in]); (try simp (disch := omega) only [IntWalk.u64_in]); first | (refine hK _ ?_; clear hK K) | (apply Exists.intro; refine ⟨fun x => ?_, hK _ ?_⟩; (first | fail); clear hK K))))))); all_goals ((apply gLex_end); intro x))
        go_wp2_with fail
        ((first | refine wp_region_gen (by kernel_rfl) (by kernel_rfl) ?_); (repeat' (first | (refine gLex_val0 rfl (by kernel_rfl) (fun K hK => ?_); (go_simp; (try (simp only [↓IntWalk.iteOmega]; try go_simp)); (try simp (disch := omega) only [IntWalk.i64_in]); (try simp (disch := omega) only [IntWalk.u64_in]); first | (refine hK _ ?_; clear hK K) | (apply Exists.intro; refine ⟨fun x => ?_, hK _ ?_⟩; (first | (go_at_call 58; exact K1.out _ (by repeat (first | exact Grows.refl _ | refine Grows.now ?_ _ | refine Grows.new ?_ _ | refine Grows.drewN ?_ _ | refine Grows.drew ?_ | assumption | (refine Grows.set ?_ (by first | omega | (simp; done) | (simp; omega)) _))))); clear hK K))) | (refine gLex_undef rfl rfl rfl (by kernel_rfl) (fun K hK => ?_); go_simp; refine hK _ ?_; clear hK K) | (refine gLex_ask rfl rfl rfl ?_; first | (apply gAsk_yes; kernel_rfl; intro K hK; (go_simp; (try (simp only [↓IntWalk.iteOmega]; try go_simp)); (try simp (disch := omega) only [IntWalk.i64_in]); (try simp (disch := omega) only [IntWalk.u64_in]); first | (refine hK _ ?_; clear hK K) | (apply Exists.intro; refine ⟨fun x => ?_, hK _ ?_⟩; (first | (go_at_call 58; exact K1.out _ (by repeat (first | exact Grows.refl _ | refine Grows.now ?_ _ | refine Grows.new ?_ _ | refine Grows.drewN ?_ _ | refine Grows.drew ?_ | assumption | (refine Grows.set ?_ (by first | omega | (simp; done) | (simp; omega)) _))))); clear hK K))) | ((first | apply gAsk_no1 | apply gAsk_no2); kernel_rfl; intro K hK; simp [go_sem]; refine hK _ ?_; clear hK K) | (apply gAsk_part; kernel_rfl; all_goals (intro h K hK; (try simp only [Bool.not_true] at h); (try simp only [Bool.not_false] at h); (try simp only [decide_eq_true_eq] at h); (try simp only [decide_eq_false_iff_not] at h); first | (exfalso; first | contradiction | omega) | (go_simp; (try (simp only [↓IntWalk.iteOmega]; try go_simp)); (try simp (disch := omega) only [IntWalk.i64_in]); (try simp (disch := omega) only [IntWalk.u64_in]); first | (refine hK _ ?_; clear hK K) | (apply Exists.intro; refine ⟨fun x => ?_, hK _ ?_⟩; (first | (go_at_call 58; exact K1.out _ (by repeat (first | exact Grows.refl _ | refine Grows.now ?_ _ | refine Grows.new ?_ _ | refine Grows.drewN ?_ _ | refine Grows.drew ?_ | assumption | (refine Grows.set ?_ (by first | omega | (simp; done) | (simp; omega)) _))))); clear hK K))))))); all_goals ((apply gLex_end); intro y1))
        go_wp2
        exact ⟨⟨q + 1, by omega, by go_num, by rw [HN2.out], ⟨y1.now, (by repeat (first | exact Grows.refl _ | refine Grows.now ?_ _ | refine Grows.new ?_ _ | refine Grows.drewN ?_ _ | refine Grows.drew ?_ | assumption | (refine Grows.set ?_ (by first | omega | (simp; done) | (simp; omega)) _)))⟩, rfl⟩, by simp [intOf]; omega⟩
      · obtain ⟨j, rfl⟩ : ∃ j, q = j + 1 := ⟨q - 1, by omega⟩
        have p3' := p3 (by omega)
        have t3' := t3 (by omega)
        clear p3 t3 hq0
        rw [Nat.add_sub_cancel] at p3' t3'
        generalize (pg L j).2 = z at *
        have hd4 : decide (0 < j + 1) = true := by simp
        have hd5 : decide ((a : Int) ≤ z) = false := decide_eq_false (by omega)
        simp only [Int.natCast_add, Int.natCast_one]
        go_wp2_with fail
        ((first | refine wp_region_gen (by kernel_rfl) (by kernel_rfl) ?_); (repeat' (first | (refine gLex_val0 rfl (by kernel_rfl) (fun K hK => ?_); (go_simp; (try (simp only [↓IntWalk.iteOmega]; try go_simp)); (try simp (disch := omega) only [IntWalk.i64_in]); (try simp (disch := omega) only [IntWalk.u64_in]); first | (refine hK _ ?_; clear hK K) | (apply Exists.intro; refine ⟨fun x => ?_, hK _ ?_⟩; (first | fail); clear hK K))) | (refine gLex_undef rfl rfl rfl (by kernel_rfl) (fun K hK => ?_); go_simp; refine hK _ ?_; clear hK K) | (refine gLex_ask rfl rfl rfl ?_; first | (apply gAsk_yes; kernel_rfl; intro K hK; (go_simp; (try (simp only [↓IntWalk.iteOmega]; try go_simp)); (try simp (disch := omega) only [IntWalk.i64_in]); (try simp (disch := omega) only [IntWalk.u64_in]); first | (refine hK _ ?_; clear hK K) | (apply Exists.intro; refine ⟨fun x => ?_, hK _ ?_⟩; (first | fail); clear hK K))) | ((first | apply gAsk_no1 | apply gAsk_no2); kernel_rfl; intro K hK; simp [go_sem]; refine hK _ ?_; clear hK K) | (apply gAsk_part; kernel_rfl; all_goals (intro h K hK; (try simp only [Bool.not_true] at h); (try simp only [Bool.not_false] at h); (try simp only [decide_eq_true_eq] at h); (try simp only [decide_eq_false_iff_not] at h); first | (exfalso; first | contradiction | omega) | (go_simp; (try (simp only [↓IntWalk.iteOmega]; try go_simp)); (try simp (disch := omega) only [IntWalk.i64_in]); (try simp (disch := omega) only [IntWalk.u64_in]); first | (refine hK _ ?_; clear hK K) | (apply Exists.intro; refine ⟨fun x => ?_, hK _ ?_⟩; (first | fail); clear hK K))))))); all_goals ((apply gLex_end); intro x))
        go_wp2_with fail
        ((first | refine wp_region_gen (by kernel_rfl) (by kernel_rfl) ?_); (repeat' (first | (refine gLex_val0 rfl (by kernel_rfl) (fun K hK => ?_); (go_simp; (try (simp only [↓IntWalk.iteOmega]; try go_simp)); (try simp (disch := omega) only [IntWalk.i64_in]); (try simp (disch := omega) only [IntWalk.u64_in]); first | (refine hK _ ?_; clear hK K) | (apply Exists.intro; refine ⟨fun x => ?_, hK _ ?_⟩; (first | (go_at_call 58; exact K1.out _ (by repeat (first | exact Grows.refl _ | refine Grows.now ?_ _ | refine Grows.new ?_ _ | refine Grows.drewN ?_ _ | refine Grows.drew ?_ | assumption | (refine Grows.set ?_ (by first | omega | (simp; done) | (simp; omega)) _))))); clear hK K))) | (refine gLex_undef rfl rfl rfl (by kernel_rfl) (fun K hK => ?_); go_simp; refine hK _ ?_; clear hK K) | (refine gLex_ask rfl rfl rfl ?_; first | (apply gAsk_yes; kernel_rfl; intro K hK; (go_simp; (try (simp only [↓IntWalk.iteOmega]; try go_simp)); (try simp (disch := omega) only [IntWalk.i64_in]); (try simp (disch := omega) only [IntWalk.u64_in]); first | (refine hK _ ?_; clear hK K) | (apply Exists.intro; refine ⟨fun x => ?_, hK _ ?_⟩; (first | (go_at_call 58; exact K1.out _ (by repeat (first | exact Grows.refl _ | refine Grows.now ?_ _ | refine Grows.new ?_ _ | refine Grows.drewN ?_ _ | refine Grows.drew ?_ | assumption | (refine Grows.set ?_ (by first | omega | (simp; done) | (simp; omega)) _))))); clear hK K))) | ((first | apply gAsk_no1 | apply gAsk_no2); kernel_rfl; intro K hK; simp [go_sem]; refine hK _ ?_; clear hK K) | (apply gAsk_part; kernel_rfl; all_goals (intro h K hK; (try simp only [Bool.not_true] at h); (try simp only [Bool.not_false] at h); (try simp only [decide_eq_true_eq] at h); (try simp only [decide_eq_false_iff_not] at h); first | (exfalso; first | contradiction | omega) | (go_simp; (try (simp only [↓IntWalk.iteOmega]; try go_simp)); (try simp (disch := omega) only [IntWalk.i64_in]); (try simp (disch := omega) only [IntWalk.u64_in]); first | (refine hK _ ?_; clear hK K) | (apply Exists.intro; refine ⟨fun x => ?_, hK _ ?_⟩; (first | (go_at_call 58; exact K1.out _ (by repeat (first | exact Grows.refl _ | refine Grows.now ?_ _ | refine Grows.new ?_ _ | refine Grows.drewN ?_ _ | refine Grows.drew ?_ | assumption | (refine Grows.set ?_ (by first | omega | (simp; done) | (simp; omega)) _))))); clear hK K))))))); all_goals ((apply gLex_end); intro y1))
        go_wp2
        exact ⟨⟨j + 1 + 1, by omega, by go_num, by rw [HN2.out], ⟨y1.now, (by repeat (first | exact Grows.refl _ | refine Grows.now ?_ _ | refine Grows.new ?_ _ | refine Grows.drewN ?_ _ | refine Grows.drew ?_ | assumption | (refine Grows.set ?_ (by first | omega | (simp; done) | (simp; omega)) _)))⟩, rfl⟩, by simp [intOf]; omega⟩
end Go.Proofs.Ytpnncadglhlclaa
