/- The law CanonPaths: for every input it returns true, and each argument reads as before. No condition. -/
import Derived.Test.YtpnncadglhlclaaQCanonPaths01
import Derived.Test.YtpnncadglhlclaaQCanonPaths07
import Derived.Test.YtpnncadglhlclaaQCanonPaths18
import Derived.Test.YtpnncadglhlclaaQCanonPaths19
import Derived.Deep.DeepCutAuto
import Derived.Test.YtpnncadglhlclaaQCanonPaths15
/- Contract: are two rows of numbers the same? -/
namespace Go.Proofs.Ytpnncadglhlclaa
open Go Go.RowKit
set_option maxHeartbeats 1000000 in
theorem r1Same (A : Option Addr) (n c : Nat) (l : List Int) (B : Option Addr) (m d : Nat) (l' : List Int) (w : World) (h : Rd w A 1 n (l.map (.int .i64))) (hn : n ≤ 1000000) (h' : Rd w B 1 m (l'.map (.int .i64))) (hm : m ≤ 1000000) :
    Calls Try.prog 31 #[.slice A n c, .slice B m d] w fun e w' => e = .returned (.bool (decide (l = l'))) ∧ Grows w w' := by
  have HL := hide (show l.length = n by simpa using h.len)
  have HM := hide (show l'.length = m by simpa using h'.len)
  have HR := hide h
  have HS := hide h'
  clear h h'
  by_cases hnm : n = m
  · subst hnm
    go_enter Try.func31, Try.ntmps31
    go_wp2
    go_loopw [5] (fun i wr => ∃ k : Nat, k ≤ n ∧ i = .int .i64 (k : Int) ∧ (∃ y : Later w, wr = y.now) ∧ ∀ j, j < k → gi l j = gi l' j) (fun i _ => n - (intOf i).toNat)
    case atStart => exact ⟨0, by omega, by go_num, ⟨⟨w, Grows.refl w⟩, rfl⟩, fun j h => by omega⟩
    case round =>
      obtain ⟨k, hk, rfl, ⟨y, rfl⟩, hall⟩ := hrel
      have HA := hide hall
      clear hall
      by_cases hend : n ≤ k
      · have HV : Hid (l = l') := by
          apply List.ext_getElem (by rw [HL.out, HM.out])
          intro j h1 h2
          have := HA.out j (by have := HL.out; omega)
          simpa [gi, h1, h2] using this
        go_wp2
        go_ret
        exact ⟨ret_bool (decide_eq_true HV.out).symm, (by repeat (first | exact Grows.refl _ | refine Grows.now ?_ _ | refine Grows.new ?_ _ | refine Grows.drewN ?_ _ | refine Grows.drew ?_ | assumption | (refine Grows.set ?_ (by first | omega | (simp; done) | (simp; omega)) _)))⟩
      · obtain ⟨b, off, rfl, hc⟩ := HR.out.intsH (by omega)
        obtain ⟨b2, off2, rfl, hc2⟩ := HS.out.intsH (by omega)
        have c1 := hc k (by omega)
        have c2 := hc2 k (by omega)
        clear hc hc2
        by_cases he : gi l k = gi l' k
        · have HE : Hid (∀ j, j < k + 1 → gi l j = gi l' j) := fun j hj => by
            by_cases e : j = k
            · rw [e]; exact he
            · exact HA.out j (by omega)
          have hd : (gi l k == gi l' k) = true := by simpa using he
          clear he
          generalize gi l k = u at *
          generalize gi l' k = v at *
          go_wp2_with fail
          ((first | refine wp_region_gen (by kernel_rfl) (by kernel_rfl) ?_); (repeat' (first | (refine gLex_val0 rfl (by kernel_rfl) (fun K hK => ?_); (go_simp; (try (simp only [↓IntWalk.iteOmega]; try go_simp)); (try simp (disch := omega) only [IntWalk.i64_in]); (try simp (disch := omega) only [IntWalk.u64_in]); first | (refine hK _ ?_; clear hK K) | (apply Exists.intro; refine ⟨fun x => ?_, hK _ ?_⟩; (first | fail); clear hK K))) | (refine gLex_undef rfl rfl rfl (by kernel_rfl) (fun K hK => ?_); go_simp; refine hK _ ?_; clear hK K) | (refine gLex_ask rfl rfl rfl ?_; first | (apply gAsk_yes; kernel_rfl; intro K hK; (go_simp; (try (simp only [↓IntWalk.iteOmega]; try go_simp)); (try simp (disch := omega) only [IntWalk.i64_in]); (try simp (disch := omega) only [IntWalk.u64_in]); first | (refine hK _ ?_; clear hK K) | (apply Exists.intro; refine ⟨fun x => ?_, hK _ ?_⟩; (first | fail); clear hK K))) | ((first | apply gAsk_no1 | apply gAsk_no2); kernel_rfl; intro K hK; simp [go_sem]; refine hK _ ?_; clear hK K) | (apply gAsk_part; kernel_rfl; all_goals (intro h K hK; (try simp only [Bool.not_true] at h); (try simp only [Bool.not_false] at h); (try simp only [decide_eq_true_eq] at h); (try simp only [decide_eq_false_iff_not] at h); first | (exfalso; first | contradiction | omega) | (go_simp; (try (simp only [↓IntWalk.iteOmega]; try go_simp)); (try simp (disch := omega) only [IntWalk.i64_in]); (try simp (disch := omega) only [IntWalk.u64_in]); first | (refine hK _ ?_; clear hK K) | (apply Exists.intro; refine ⟨fun x => ?_, hK _ ?_⟩; (first | fail); clear hK K))))))); all_goals ((apply gLex_end); intro x))
          go_wp2
          refine ⟨⟨k + 1, by omega, by go_num, Grows.later (by repeat (first | exact Grows.refl _ | refine Grows.now ?_ _ | refine Grows.new ?_ _ | refine Grows.drewN ?_ _ | refine Grows.drew ?_ | assumption | (refine Grows.set ?_ (by first | omega | (simp; done) | (simp; omega)) _))), HE.out⟩, by simp [intOf]; omega⟩
        · have HV : Hid (¬ l = l') := fun e => he (by rw [e])
          have hd : (gi l k == gi l' k) = false := by simpa using he
          clear he
          go_wp2_with fail
          ((first | refine wp_region_gen (by kernel_rfl) (by kernel_rfl) ?_); (repeat' (first | (refine gLex_val0 rfl (by kernel_rfl) (fun K hK => ?_); (go_simp; (try (simp only [↓IntWalk.iteOmega]; try go_simp)); (try simp (disch := omega) only [IntWalk.i64_in]); (try simp (disch := omega) only [IntWalk.u64_in]); first | (refine hK _ ?_; clear hK K) | (apply Exists.intro; refine ⟨fun x => ?_, hK _ ?_⟩; (first | fail); clear hK K))) | (refine gLex_undef rfl rfl rfl (by kernel_rfl) (fun K hK => ?_); go_simp; refine hK _ ?_; clear hK K) | (refine gLex_ask rfl rfl rfl ?_; first | (apply gAsk_yes; kernel_rfl; intro K hK; (go_simp; (try (simp only [↓IntWalk.iteOmega]; try go_simp)); (try simp (disch := omega) only [IntWalk.i64_in]); (try simp (disch := omega) only [IntWalk.u64_in]); first | (refine hK _ ?_; clear hK K) | (apply Exists.intro; refine ⟨fun x => ?_, hK _ ?_⟩; (first | fail); clear hK K))) | ((first | apply gAsk_no1 | apply gAsk_no2); kernel_rfl; intro K hK; simp [go_sem]; refine hK _ ?_; clear hK K) | (apply gAsk_part; kernel_rfl; all_goals (intro h K hK; (try simp only [Bool.not_true] at h); (try simp only [Bool.not_false] at h); (try simp only [decide_eq_true_eq] at h); (try simp only [decide_eq_false_iff_not] at h); first | (exfalso; first | contradiction | omega) | (go_simp; (try (simp only [↓IntWalk.iteOmega]; try go_simp)); (try simp (disch := omega) only [IntWalk.i64_in]); (try simp (disch := omega) only [IntWalk.u64_in]); first | (refine hK _ ?_; clear hK K) | (apply Exists.intro; refine ⟨fun x => ?_, hK _ ?_⟩; (first | fail); clear hK K))))))); all_goals ((apply gLex_end); intro x))
          go_wp2
          go_ret
          exact ⟨ret_bool (decide_eq_false HV.out).symm, (by repeat (first | exact Grows.refl _ | refine Grows.now ?_ _ | refine Grows.new ?_ _ | refine Grows.drewN ?_ _ | refine Grows.drew ?_ | assumption | (refine Grows.set ?_ (by first | omega | (simp; done) | (simp; omega)) _)))⟩
  · have HV : Hid (¬ l = l') := fun e => hnm (by rw [← HL.out, ← HM.out, e])
    have hd : ((n : Int) == (m : Int)) = false := beq_eq_false_iff_ne.2 (by omega)
    go_enter Try.func31, Try.ntmps31
    go_wp2
    go_ret
    exact ⟨ret_bool (decide_eq_false HV.out).symm, (by repeat (first | exact Grows.refl _ | refine Grows.now ?_ _ | refine Grows.new ?_ _ | refine Grows.drewN ?_ _ | refine Grows.drew ?_ | assumption | (refine Grows.set ?_ (by first | omega | (simp; done) | (simp; omega)) _)))⟩
end Go.Proofs.Ytpnncadglhlclaa

/- The chapter's example; and the law CanonPaths, walked: the shortest way between any two nodes, of whatever counts, or why there is none, and its first edge. -/
namespace Go.Proofs.Ytpnncadglhlclaa
open Go Go.RowKit
def caE : List Edg := [⟨0, 1, 1⟩, ⟨0, 1, 1⟩]
def caO : DOpt := ⟨false, [], [], [], 0⟩
def caD (v : Nat) : Nat := if v = 0 then 1 else 0
theorem caIs : IsPath caE caO 2 0 1 [0] 1 0 := by
  have hw : wtF ((2 : Nat) : Int) caE caO.W = [1, 1] := by decide +kernel
  obtain ⟨xs, hx⟩ := path_walk (NN := 2) (sN := 0) (tN := 1) (E := caE) (o := caO) (by decide +kernel) (by omega) (by show 0 ≤ _; omega) (by show 0 ≤ _; omega)
  have hnn : ((1 : Nat) : Int) ∉ caO.nn := by simp [caO]
  have hf := hx.far hnn
  have hnear := hx.near hnn
  have hww : ∀ j, gn (srchOf 2 caE (backO caO)).W j = gn [1, 1] j := fun j => by show gn (wtF ((2 : Nat) : Int) caE caO.W) j = _; rw [hw]
  have w1 : Way (srchOf 2 caE (backO caO)) 1 0 1 := by
    have := Way.step (x := srchOf 2 caE (backO caO)) (s := 1) (f := 0) (i := 0) (by exact Way.here) (by decide) (by decide)
    rw [hww] at this
    exact this
  have ge : ∀ {v f}, Way (srchOf 2 caE (backO caO)) 1 v f → caD v ≤ f := fun {v f} h => Way.ge (x := srchOf 2 caE (backO caO)) caD rfl (fun i hi => by
    have hi : i < 2 := hi
    rw [hww]
    match i, hi with
    | 0, _ => decide
    | 1, _ => decide) h
  have d0 : gn (outL 2 xs) 0 = 1 := hf.is (v := 0) rfl (by show 0 < 2; omega) w1 (fun g hg => ge hg)
  have hz : gn (outL 2 xs) 1 = 0 := hnear.zero
  have hfol : Fol (srchOf 2 caE (backO caO)) (outL 2 xs) 1 0 [0] := by
    refine Fol.step (i := 0) (by omega) (by decide) (by decide) ?_ (fun j hj => by omega) ?_
    · have e1 : tN (srchOf 2 caE (backO caO)).E 0 = 1 := by decide
      unfold nearB
      rw [e1, hz, d0, hww]
      decide
    · exact Fol.here
  have := IsPath.way (E := caE) (o := caO) 2 0 1 xs [0] rfl rfl rfl hx (by rw [d0]; decide) hnear hfol
  rw [d0] at this
  exact this
set_option maxRecDepth 20000 in
set_option maxHeartbeats 4000000 in
theorem alive15 (w : World) : Calls Try.prog 38 #[] w fun e w' => e = .returned (.bool true) ∧ Grows w w' := by
  have C := hide (fun (W : World) (A : Option Addr) (h : Rd W A 3 2 (esCells caE)) => show Calls Try.prog 39 #[.agg #[.int .i64 2, .slice A 2 2], .int .i64 0, .int .i64 1, .agg #[.bool false, .slice none 0 0, .slice none 0 0, .slice none 0 0, .int .u64 0]] W fun e w' =>
      ∃ A' c', e = .returned (.tuple #[.agg #[.slice A' 1 c', .int .u64 1], .int .i64 0]) ∧ Own w' W.heap.size 3 1 A' 1 c' (nv [0]) ∧ Grows W w' from
    caPath 2 0 1 A 2 caE caO none none none 0 0 0 [0] 1 0 W h ⟨rfl, fun h => absurd h (by simp [caO])⟩ ⟨rfl, fun h => absurd h (by simp [caO])⟩ ⟨rfl, fun h => absurd h (by simp [caO])⟩ (by show 2 ≤ _; omega) (by show 0 ≤ _; omega) caIs)
  go_enter Try.func38, Try.ntmps38
  go_wp2_with fail
  refine (C.out _ _ (Rd.made (w := w) (t := 49) (size := 3) (n := 2) (esCells caE) rfl)).mono ?_
  rintro e w1 ⟨A', c', rfl, ho, hg⟩
  obtain ⟨x, hx⟩ : ∃ x : Later w, w1 = x.now := (((Grows.refl w).new _).trans hg).later
  subst hx
  have HR := hide (fun (W : World) (hg : Grows x.now W) (A : Option Addr) (h : Rd W A 1 1 ([0].map (.int .i64))) => show Calls Try.prog 31 #[.slice A' 1 c', .slice A 1 1] W fun e w' => e = .returned (.bool true) ∧ Grows W w' from by
    have := r1Same A' 1 c' [0] A 1 1 [0] W (ho.rd.grows hg) (by omega) h (by omega)
    simpa using this)
  clear hg ho
  go_wp2_with fail
  have hR : Rd ((x.now.alloc (.cells #[.slice A' 1 c', .int .u64 1] 64)).alloc (.cells #[.int .i64 0] 3)) (some ⟨x.now.heap.size + 1, 0, none⟩) 1 1 [.int .i64 0] := by
    have := Rd.made (w := x.now.alloc (.cells #[.slice A' 1 c', .int .u64 1] 64)) (t := 3) (size := 1) (n := 1) [.int .i64 0] rfl
    rw [show (x.now.alloc (.cells #[.slice A' 1 c', .int .u64 1] 64)).heap.size = x.now.heap.size + 1 by simp] at this
    exact this
  refine (HR.out _ (by repeat (first | exact Grows.refl _ | refine Grows.now ?_ _ | refine Grows.new ?_ _ | refine Grows.drewN ?_ _ | refine Grows.drew ?_ | assumption | (refine Grows.set ?_ (by first | omega | (simp; done) | (simp; omega)) _))) _ hR).mono ?_
  rintro e w2 ⟨rfl, hg⟩
  obtain ⟨y, rfl⟩ := Grows.later2 ((((Grows.refl x.now).new _).new _).trans hg)
  clear hg
  go_wp2_with fail
  go_ret
  exact ⟨rfl, (by repeat (first | exact Grows.refl _ | refine Grows.now ?_ _ | refine Grows.new ?_ _ | refine Grows.drewN ?_ _ | refine Grows.drew ?_ | assumption | (refine Grows.set ?_ (by first | omega | (simp; done) | (simp; omega)) _)))⟩
/-- A path that came, and its fault. -/
def PathP (lo n f : Nat) (r : Int) (l : List Nat) : Pr := fun u w => ∃ A c, u = .tuple #[.agg #[.slice A n c, .int .u64 (f : Int)], .int .i64 r] ∧ Own w lo 3 1 A n c (nv l)
theorem PathP.lasts (lo n f : Nat) (r : Int) (l : List Nat) : Lasts (PathP lo n f r l) := fun _ _ _ hg ⟨A, c, e, h⟩ => ⟨A, c, e, h.grows hg⟩
def RteP (lo n f : Nat) (l : List Nat) : Pr := fun u w => ∃ A c, u = .agg #[.slice A n c, .int .u64 (f : Int)] ∧ Own w lo 3 1 A n c (nv l)
theorem RteP.lasts (lo n f : Nat) (l : List Nat) : Lasts (RteP lo n f l) := fun _ _ _ hg ⟨A, c, e, h⟩ => ⟨A, c, e, h.grows hg⟩
def BoxP (lo : Nat) (cs : List Value) : Pr := fun u w => ∃ g, u = .pointer (some ⟨g, 0, none⟩) ∧ Arr w g 64 cs ∧ lo ≤ g
theorem BoxP.lasts (lo : Nat) (cs : List Value) : Lasts (BoxP lo cs) := fun _ _ _ hg ⟨g, e, h, l⟩ => ⟨g, e, h.grow hg, l⟩
def IsP (v : Value) : Pr := fun u _ => u = v
theorem IsP.lasts (v : Value) : Lasts (IsP v) := fun _ _ _ _ h => h
set_option maxRecDepth 40000 in
set_option maxHeartbeats 16000000 in
theorem canonPathsW (N : Int) (A : Option Addr) (n c : Nat) (E : List Edg) (s t : Int) (back : Bool) (A1 : Option Addr) (n1 c1 : Nat) (z1 : List Int) (A2 : Option Addr) (n2 c2 : Nat) (z2 : List Int) (A3 : Option Addr) (n3 c3 : Nat) (z3 : List Int) (most : Int) (w : World)
    (_ : I64 N) (_ : n ≤ c) (h : Rd w A 3 n (esCells E)) (_ : ∀ k, k < n → edgOk (ge E k)) (_ : I64 s) (_ : I64 t) (hz1 : Rd w A1 1 n1 (z1.map (.int .i64)) ∧ ∀ z ∈ z1, (Lit.int .i64 z).wf = true) (hz2 : Rd w A2 1 n2 (z2.map (.int .i64)) ∧ ∀ z ∈ z2, (Lit.int .i64 z).wf = true) (hz3 : Rd w A3 1 n3 (z3.map (.int .u64)) ∧ ∀ z ∈ z3, (Lit.int .u64 z).wf = true) (hmo : U64 most) :
    Calls Try.prog 8 #[.agg #[.int .i64 N, .slice A n c], .int .i64 s, .int .i64 t, .agg #[.bool back, .slice A1 n1 c1, .slice A2 n2 c2, .slice A3 n3 c3, .int .u64 most]] w fun e w' => e = .returned (.bool true) ∧ Grows w w' := by
  obtain ⟨hz1, _⟩ := hz1
  obtain ⟨hz2, _⟩ := hz2
  obtain ⟨hz3, hwf⟩ := hz3
  rw [wv_of hwf] at hz3
  generalize z3.map Int.toNat = W at hz3
  unfold U64 at hmo
  obtain ⟨mo, rfl⟩ : ∃ mo : Nat, most = (mo : Int) := ⟨most.toNat, by omega⟩
  have e1 : z1.length = n1 := by simpa using hz1.len
  have e2 : z2.length = n2 := by simpa using hz2.len
  have e3 : W.length = n3 := hz3.wlen
  have e4 : E.length = n := h.elen
  subst e1 e2 e3 e4
  have CL := fun (W1 : World) => lLight14 N A E.length c back A1 A2 A3 z1.length c1 z2.length c2 W.length c3 mo W1
  unfold oVal at CL
  cases hq : light14 N E.length z1.length z2.length W.length with
  | false =>
    rw [hq] at CL
    have H1 := hide CL
    clear CL hq h hz1 hz2 hz3
    go_enter Try.func8, Try.ntmps8
    go_wp2_with (first | (go_at_call 24; refine (H1.out _).mono ?_; rintro e w' ⟨rfl, hg⟩; (first | obtain ⟨x, rfl⟩ := Grows.later2 hg | obtain ⟨x, rfl⟩ := Grows.later hg); clear hg) | (go_at_call 38; refine (alive15 _).mono ?_; rintro e w' ⟨rfl, hg⟩; (first | obtain ⟨x, rfl⟩ := Grows.later2 hg | obtain ⟨x, rfl⟩ := Grows.later hg); clear hg))
    go_ret
    exact ⟨rfl, (by repeat (first | exact Grows.refl _ | refine Grows.now ?_ _ | refine Grows.new ?_ _ | refine Grows.drewN ?_ _ | refine Grows.drew ?_ | assumption | (refine Grows.set ?_ (by first | omega | (simp; done) | (simp; omega)) _)))⟩
  | true =>
  rw [hq] at CL
  have H1 := hide CL
  have hsz : E.length ≤ 1000000 ∧ z1.length ≤ 1000000 ∧ z2.length ≤ 1000000 ∧ W.length ≤ 1000000 := by
    unfold light14 lightG at hq
    simp at hq
    omega
  obtain ⟨hn, hn1, hn2, hn3⟩ := hsz
  clear CL hq
  have KO := hide (fun (W1 : World) => law14Of back (.slice A1 z1.length c1) (.slice A2 z2.length c2) ⟨_, _, _, rfl⟩ ⟨_, _, _, rfl⟩ A3 W.length c3 mo W1)
  unfold oVal at KO
  obtain ⟨l, f, r, hp⟩ := isPath_any E ⟨back, z1, z2, W, mo⟩ N s t hn1 hn2
  have hsl := hp.short
  have hll : l.length ≤ 1000000 := by omega
  have K1 := hide (fun (W1 : World) (g : Grows w W1) => show Calls Try.prog 39 #[.agg #[.int .i64 N, .slice A E.length c], .int .i64 s, .int .i64 t, .agg #[.bool back, .slice A1 z1.length c1, .slice A2 z2.length c2, .slice A3 W.length c3, .int .u64 (mo : Int)]] W1 fun e w' =>
      ∃ A' c', e = .returned (.tuple #[.agg #[.slice A' l.length c', .int .u64 (f : Int)], .int .i64 r]) ∧ Own w' W1.heap.size 3 1 A' l.length c' (nv l) ∧ Grows W1 w' from
    caPath N s t A c E ⟨back, z1, z2, W, mo⟩ A1 A2 A3 c1 c2 c3 l f r W1 (h.grows g) (hz1.grows g) (hz2.grows g) (hz3.grows g) hn hn3 hp)
  have K2 := hide (fun (W1 : World) (g : Grows w W1) => show Calls Try.prog 40 #[.agg #[.int .i64 N, .slice A E.length c], .int .i64 s, .int .i64 t, .agg #[.bool back, .slice A1 z1.length c1, .slice A2 z2.length c2, .slice A3 W.length c3, .int .u64 (mo : Int)]] W1 fun e w' =>
      ∃ u, e = .returned u ∧ Grows W1 w' ∧ PathP W1.heap.size l.length f r l u w' from
    (r15Path N s t A c E ⟨back, z1, z2, W, mo⟩ A1 A2 A3 c1 c2 c3 l f r W1 (h.grows g) (hz1.grows g) (hz2.grows g) (hz3.grows g) hn hn3 hp).mono (fun e w' h => by
      obtain ⟨A', c', rfl, ho, hg⟩ := h
      exact ⟨_, rfl, hg, A', c', rfl, ho⟩))
  have K3 := hide (fun (W1 : World) (g : Grows w W1) => show Calls Try.prog 41 #[.agg #[.int .i64 N, .slice A E.length c], .int .i64 s, .int .i64 t, .agg #[.bool back, .slice A1 z1.length c1, .slice A2 z2.length c2, .slice A3 W.length c3, .int .u64 (mo : Int)]] W1 fun e w' =>
      e = .returned (.tuple #[.int .i64 (firstP l), .int .i64 (whyP l r)]) ∧ Grows W1 w' from
    caNext N s t A c E ⟨back, z1, z2, W, mo⟩ A1 A2 A3 c1 c2 c3 l f r W1 (h.grows g) (hz1.grows g) (hz2.grows g) (hz3.grows g) hn hn3 hp)
  have K4 := hide (fun (W1 : World) (B1 B2 : Option Addr) (d1 d2 : Nat) (h1 : Rd W1 B1 1 l.length (nv l)) (h2 : Rd W1 B2 1 l.length (nv l)) => show Calls Try.prog 42 #[.agg #[.slice B1 l.length d1, .int .u64 (f : Int)], .agg #[.slice B2 l.length d2, .int .u64 (f : Int)]] W1 fun e w' => e = .returned (.int .i64 0) ∧ Grows W1 w' from by
    have e9 : nv l = (l.map fun (i : Nat) => (i : Int)).map (.int .i64) := by unfold nv; rw [List.map_map]; rfl
    rw [e9] at h1 h2
    exact r8CmpEq B1 l.length d1 _ B2 d2 f W1 h1 hll h2)
  have HNE := hide hp.noEdge
  have a1 : Arr ((w.alloc (.cells #[.int .i64 N, .slice A E.length c] 24)).alloc (.cells #[.bool back, .slice A1 z1.length c1, .slice A2 z2.length c2, .slice A3 W.length c3, .int .u64 (mo : Int)] 39)) w.heap.size 24 [.int .i64 N, .slice A E.length c] := (Arr.make w _ _).grow ((Grows.refl _).new _)
  have a2 : Arr ((w.alloc (.cells #[.int .i64 N, .slice A E.length c] 24)).alloc (.cells #[.bool back, .slice A1 z1.length c1, .slice A2 z2.length c2, .slice A3 W.length c3, .int .u64 (mo : Int)] 39)) (w.heap.size + 1) 39 [.bool back, .slice A1 z1.length c1, .slice A2 z2.length c2, .slice A3 W.length c3, .int .u64 (mo : Int)] := by
    have := Arr.make (w.alloc (.cells #[.int .i64 N, .slice A E.length c] 24)) [.bool back, .slice A1 z1.length c1, .slice A2 z2.length c2, .slice A3 W.length c3, .int .u64 (mo : Int)] 39
    rw [show (w.alloc (.cells #[.int .i64 N, .slice A E.length c] 24)).heap.size = w.heap.size + 1 by simp] at this
    exact this
  clear h hz1 hz2 hz3 hn hn1 hn2 hn3 hp hsl hll
  go_enter Try.func8, Try.ntmps8
  go_wp2_with (go_at_call 24; refine (H1.out _).mono ?_; rintro e w' ⟨rfl, hg⟩; obtain ⟨x1, rfl⟩ := hg.later; clear hg)
  refine (K1.out _ (by repeat (first | exact Grows.refl _ | refine Grows.now ?_ _ | refine Grows.new ?_ _ | refine Grows.drewN ?_ _ | refine Grows.drew ?_ | assumption | (refine Grows.set ?_ (by first | omega | (simp; done) | (simp; omega)) _)))).mono ?_; rintro e W0 ⟨B1, d1, rfl, ho1, hg⟩
  replace a1 := (a1.grow x1.grows).grow hg
  replace a2 := (a2.grow x1.grows).grow hg
  have g0 : Grows w W0 := Grows.trans (show Grows w x1.now from (by repeat (first | exact Grows.refl _ | refine Grows.now ?_ _ | refine Grows.new ?_ _ | refine Grows.drewN ?_ _ | refine Grows.drew ?_ | assumption | (refine Grows.set ?_ (by first | omega | (simp; done) | (simp; omega)) _)))) hg
  have HO1 := hide ho1
  clear hg ho1
  obtain ⟨b4, e4⟩ : ∃ b, w.heap.size = b := ⟨_, rfl⟩
  rw [e4] at a1 a2 ⊢
  clear e4
  generalize b4 + 1 = b7 at *
  obtain ⟨y, rfl⟩ := g0.later
  clear g0
  go_upto_region 4 with fail
  obtain ⟨W3, hW3⟩ : ∃ W3, W3 = y.now.alloc (.cells #[.slice B1 l.length d1, .int .u64 (f : Int)] 64) := ⟨_, rfl⟩
  have c9 : Arr W3 y.now.heap.size 64 [.slice B1 l.length d1, .int .u64 (f : Int)] := by rw [hW3]; exact Arr.make _ _ _
  have gW3 : Grows y.now W3 := by rw [hW3]; exact (Grows.refl _).new _
  rw [← hW3]
  replace a1 := a1.grow gW3
  replace a2 := a2.grow gW3
  have HO1 := hide (HO1.out.grows gW3)
  have g3 : Grows w W3 := y.grows.trans gW3
  clear hW3 gW3
  generalize y.now.heap.size = b9 at *

  have g3s := g3.size
  have h9 := c9.ty.lt
  have hb4 := a1.ty.lt
  have hb7 := a2.ty.lt
  go_cut [11, 12] (fun s11 s12 wx => s12 = .int .i64 r ∧ ∃ z : Later W3, wx = z.now ∧ ∃ b11 B2 d2, s11 = .pointer (some ⟨b11, 0, none⟩) ∧ Mine z.now ⟨b11, 0, none⟩ (.slice B2 l.length d2) ∧ Mine z.now ⟨b11, 1, none⟩ (.int .u64 (f : Int)) ∧ Hid (Rd z.now B2 1 l.length (nv l)))
  case first =>
    clear H1 K1 K3 K4 HO1 HNE
    go_region_with (first
      | (go_at_call 28; refine (KO.out _).mono ?_; rintro e w' ⟨rfl, hg⟩; obtain ⟨x3, rfl⟩ := hg.later; clear hg)
      | (go_at_call 40; refine (K2.out _ (by repeat (first | exact Grows.refl _ | refine Grows.now ?_ _ | refine Grows.new ?_ _ | refine Grows.drewN ?_ _ | refine Grows.drew ?_ | assumption | (refine Grows.set ?_ (by first | omega | (simp; done) | (simp; omega)) _)))).mono ?_; rintro e w' ⟨u, rfl, hg, A8, c8, rfl, ho⟩; obtain ⟨x4, rfl⟩ := hg.later; have HOO := hide ho; clear hg ho))
    all_goals go_wp2_with fail
    all_goals go_meet
    all_goals (case rel =>
      first
        | (refine ⟨rfl, ⟨x4.now.alloc _, ?gg⟩, (by with_reducible rfl), _, A8, c8, rfl, Mine.new0 _ _ _ _, Mine.new1 _ _ _ _ _, ?mf⟩
           case gg => exact (by repeat (first | exact Grows.refl _ | refine Grows.now ?_ _ | refine Grows.new ?_ _ | refine Grows.drewN ?_ _ | refine Grows.drew ?_ | assumption | (refine Grows.set ?_ (by first | omega | (simp; done) | (simp; omega)) _)))
           case mf => exact hide ((HOO.out.new _).rd))
        | (have hx3 := x3.grows.size
           try simp at hx3
           have h3s := (show Grows W3 x3.now from (by repeat (first | exact Grows.refl _ | refine Grows.now ?_ _ | refine Grows.new ?_ _ | refine Grows.drewN ?_ _ | refine Grows.drew ?_ | assumption | (refine Grows.set ?_ (by first | omega | (simp; done) | (simp; omega)) _)))).size
           refine ⟨rfl, ⟨(x4.now.setCell _ _).setCell _ _, ?gg⟩, (by with_reducible rfl), _, A8, c8, rfl, ⟨by simp [go_sem], by simp [go_sem]⟩, ⟨by simp [go_sem], by simp [go_sem]⟩, ?mf⟩
           case gg => exact (by repeat (first | exact Grows.refl _ | refine Grows.now ?_ _ | refine Grows.new ?_ _ | refine Grows.drewN ?_ _ | refine Grows.drew ?_ | assumption | (refine Grows.set ?_ (by first | omega | (simp; done) | (simp; omega)) _)))
           case mf => exact hide (((HOO.out.low (by first | (simp; done) | (simp; omega)) _).low (by first | (simp; done) | (simp; omega)) _).rd)))
  case rest =>
    obtain ⟨rfl, z, rfl, b11, B2, d2, rfl, m0, m1, HR2⟩ := hcut
    have HR1 := hide ((HO1.out.grows z.grows).rd)
    replace a1 := a1.grow z.grows
    replace a2 := a2.grow z.grows
    replace c9 := c9.grow z.grows
    have gz : Grows w z.now := g3.trans z.grows
    clear HO1 K1 K2 H1 g3 g3s h9 hb4 hb7
    generalize z.now = W4 at *
    by_cases hr : r = 0
    · subst hr
      cases l with
      | nil =>
        have e1 : firstP [] = -1 := rfl
        have e2 : whyP [] 0 = 9 := rfl
        have hln : ([] : List Nat).length = 0 := rfl
        rw [e1, e2] at K3
        rw [hln] at K4 c9 m0 HR1 HR2
        clear e1 e2 hln
        go_wp2_with fail
        refine (K3.out _ (by repeat (first | exact Grows.refl _ | refine Grows.now ?_ _ | refine Grows.new ?_ _ | refine Grows.drewN ?_ _ | refine Grows.drew ?_ | assumption | (refine Grows.set ?_ (by first | omega | (simp; done) | (simp; omega)) _)))).mono ?_; rintro e w' ⟨rfl, hg⟩; obtain ⟨x5, hx5⟩ : ∃ x5 : Later W4, w' = x5.now := hg.later; subst hx5; clear hg
        go_wp2_with fail
        refine (K4.out _ _ _ _ _ (HR1.out.grows x5.grows) (HR2.out.grows x5.grows)).mono ?_; rintro e w' ⟨rfl, hg⟩; obtain ⟨x6, hx6⟩ : ∃ x6 : Later x5.now, w' = x6.now := hg.later; subst hx6; clear hg
        go_wp2_with fail
        refine (alive15 _).mono ?_; rintro e w' ⟨rfl, hg⟩; obtain ⟨x7, hx7⟩ : ∃ x7 : Later x6.now, w' = x7.now := hg.later; subst hx7; clear hg
        go_wp2_with fail
        go_ret
        exact ⟨rfl, ((gz.trans x5.grows).trans x6.grows).trans x7.grows⟩
      | cons i l =>
        have e1 : firstP (i :: l) = (i : Int) := rfl
        have e2 : whyP (i :: l) 0 = 0 := rfl
        have hln : (i :: l).length = l.length + 1 := rfl
        have hgt : decide ((0 : Int) < (l.length : Int) + 1) = true := decide_eq_true (by omega)
        rw [e1, e2] at K3
        rw [hln] at K4 c9 m0 HR1 HR2
        clear e1 e2 hln
        obtain ⟨g0, o0, rfl, hc⟩ := HR2.out.at_ (by omega)
        have k0 : Holds W4 ⟨g0, o0, none⟩ (.int .i64 (i : Int)) := ⟨hc 0 _ rfl⟩
        clear hc
        try simp only [Int.natCast_add, Int.natCast_one] at K4 m0
        go_wp2_with fail
        refine (K3.out _ (by repeat (first | exact Grows.refl _ | refine Grows.now ?_ _ | refine Grows.new ?_ _ | refine Grows.drewN ?_ _ | refine Grows.drew ?_ | assumption | (refine Grows.set ?_ (by first | omega | (simp; done) | (simp; omega)) _)))).mono ?_; rintro e w' ⟨rfl, hg⟩; obtain ⟨x5, hx5⟩ : ∃ x5 : Later W4, w' = x5.now := hg.later; subst hx5; clear hg
        go_wp2_with fail
        refine (K4.out _ _ _ _ _ (HR1.out.grows x5.grows) (HR2.out.grows x5.grows)).mono ?_; rintro e w' ⟨rfl, hg⟩; obtain ⟨x6, hx6⟩ : ∃ x6 : Later x5.now, w' = x6.now := hg.later; subst hx6; clear hg
        go_wp2_with fail
        refine (alive15 _).mono ?_; rintro e w' ⟨rfl, hg⟩; obtain ⟨x7, hx7⟩ : ∃ x7 : Later x6.now, w' = x7.now := hg.later; subst hx7; clear hg
        go_wp2_with fail
        go_ret
        exact ⟨rfl, ((gz.trans x5.grows).trans x6.grows).trans x7.grows⟩
    · have hl := HNE.out hr
      subst hl
      have e1 : firstP [] = -1 := rfl
      have e2 : whyP [] r = r := if_pos hr
      have hb1 : (r == 0) = false := beq_eq_false_iff_ne.2 hr
      have hln : ([] : List Nat).length = 0 := rfl
      rw [e1, e2] at K3
      rw [hln] at K4 c9 m0 HR1 HR2
      clear e1 e2 hln hr
      go_wp2_with fail
      refine (K3.out _ (by repeat (first | exact Grows.refl _ | refine Grows.now ?_ _ | refine Grows.new ?_ _ | refine Grows.drewN ?_ _ | refine Grows.drew ?_ | assumption | (refine Grows.set ?_ (by first | omega | (simp; done) | (simp; omega)) _)))).mono ?_; rintro e w' ⟨rfl, hg⟩; obtain ⟨x5, hx5⟩ : ∃ x5 : Later W4, w' = x5.now := hg.later; subst hx5; clear hg
      go_wp2_with fail
      refine (K4.out _ _ _ _ _ (HR1.out.grows x5.grows) (HR2.out.grows x5.grows)).mono ?_; rintro e w' ⟨rfl, hg⟩; obtain ⟨x6, hx6⟩ : ∃ x6 : Later x5.now, w' = x6.now := hg.later; subst hx6; clear hg
      go_wp2_with fail
      refine (alive15 _).mono ?_; rintro e w' ⟨rfl, hg⟩; obtain ⟨x7, hx7⟩ : ∃ x7 : Later x6.now, w' = x7.now := hg.later; subst hx7; clear hg
      go_wp2_with fail
      go_ret
      exact ⟨rfl, ((gz.trans x5.grows).trans x6.grows).trans x7.grows⟩
end Go.Proofs.Ytpnncadglhlclaa

/- The law CanonPaths: for every input it returns true, and each argument reads as before. No condition. -/
namespace Go.Proofs.Ytpnncadglhlclaa.lawCanonPaths
open Go Go.ChangeShapes Go.WideShapes Go.ChangeAt Go.RowKit Go.Proofs.Ytpnncadglhlclaa

theorem own : ownKnob Try.prog.godebug = none := by kernel_rfl
theorem laidOut : laidOutB Try.prog = true := by kernel_rfl

set_option maxRecDepth 100000 in
theorem lifted (os : Os) (started : os.Started) (H : Type) (enc : TypeId × Value → H) :
    ReturnsInHanded {} Try.checked os 8 .any (Rows.canonPathsSpec.pre6 enc Try.prog Try.f8 Rows.canonPathsRow.domain false) (Rows.canonPathsSpec.post enc Try.prog Try.f8 false true false false) := by
  refine returnsInHanded_of_change (C := Try.checked) own started (by kernel_rfl) Try.func8
    (ChangeSpec.witness6 (enc := enc) (C := Try.checked) false ⟨#[], #[.agg #[.int .i64 0, .slice none 0 0], .int .i64 0, .int .i64 0, .agg #[.bool false, .slice none 0 0, .slice none 0 0, .slice none 0 0, .int .u64 0]], []⟩ 8 (by kernel_rfl) (by kernel_rfl) (by kernel_rfl) (by kernel_rfl)) ?_
  intro W base args ds gs before hval0 hW hcnd _
  have hval : ∀ (j : Nat) t v, Try.f8.params[j]? = some t → args[j]? = some v → Value.okWide Try.prog W .any base t v := hval0
  have hW' := hW
  obtain ⟨p, q, hA0, hV, rfl, hfz, hnd⟩ := hW
  have hA : DataW.TrodAll enc Try.prog W 0 (fun _ => true) true Try.f8.params.toList args.toList ds p := hA0
  rw [Try.params8] at hA hval
  obtain ⟨v0, vs0, d0, ds0, p0, q0, hargs, rfl, rfl, h0, r0⟩ := trodAll_cons hA
  obtain ⟨v1, vs1, d1, ds1, p1, q1, rfl, rfl, rfl, h1, r1⟩ := trodAll_cons r0
  obtain ⟨v2, vs2, d2, ds2, p2, q2, rfl, rfl, rfl, h2, r2⟩ := trodAll_cons r1
  obtain ⟨v3, vs3, d3, ds3, p3, q3, rfl, rfl, rfl, h3, r3⟩ := trodAll_cons r2
  obtain ⟨rfl, rfl, rfl⟩ := trodAll_nil r3
  obtain rfl : args = #[v0, v1, v2, v3] := by cases args; simp_all
  obtain ⟨rfl, rfl⟩ := trodVars_none hV
  have k0 := h0
  have lt0 : ∀ x ∈ p0, x.block < W.heap.size := by obtain ⟨m, hm⟩ := k0; exact DataW.trod_lt m _ _ _ hm
  obtain ⟨a0, A0, n0, c0, z0, rfl, x0, l0, w0, u0⟩ := open_graph Try.underlying24 Try.underlying3 Try.underlying22 Try.underlying49 Try.underlying3 Try.underlying3 Try.underlying37 ⟨rfl, rfl, rfl⟩ ⟨by kernel_rfl, by kernel_rfl, by kernel_rfl⟩ (by kernel_rfl) (by kernel_rfl) (by kernel_rfl) (hval 0 24 v0 rfl rfl) h0
  have k1 := h1
  have lt1 : ∀ x ∈ p1, x.block < W.heap.size := by obtain ⟨m, hm⟩ := k1; exact DataW.trod_lt m _ _ _ hm
  obtain ⟨a1, rfl, w1⟩ := open_i64 Try.underlying3 (hval 1 3 v1 rfl rfl) h1
  have k2 := h2
  have lt2 : ∀ x ∈ p2, x.block < W.heap.size := by obtain ⟨m, hm⟩ := k2; exact DataW.trod_lt m _ _ _ hm
  obtain ⟨a2, rfl, w2⟩ := open_i64 Try.underlying3 (hval 2 3 v2 rfl rfl) h2
  have k3 := h3
  have lt3 : ∀ x ∈ p3, x.block < W.heap.size := by obtain ⟨m, hm⟩ := k3; exact DataW.trod_lt m _ _ _ hm
  obtain ⟨a3, A3a, n3a, c3a, z3a, A3b, n3b, c3b, z3b, A3c, n3c, c3c, z3c, m3, rfl, w3a, w3b, w3c, u3⟩ := open_opt Try.underlying39 Try.underlying4 Try.underlying31 Try.underlying31 Try.underlying36 Try.underlying37 Try.underlying3 Try.underlying37 (by kernel_rfl) (by kernel_rfl) (by kernel_rfl) (by kernel_rfl) (hval 3 39 v3 rfl rfl) h3
  clear hA0 hval0
  refine (canonPathsW a0 A0 n0 c0 z0 a1 a2 a3 A3a n3a c3a z3a A3b n3b c3b z3b A3c n3c c3c z3c m3 W x0 l0 w0 u0 w1 w2 w3a w3b w3c u3).mono fun e W' ⟨he, bel⟩ => ?_
  subst he
  exact ⟨_, rfl, _, _, _, [], _, [], hW', trodAll_mk1 (shut_bool Try.underlying4 _), (trodAll_cons_mk (Below.trod laidOut (by kernel_rfl) (of_decide_eq_true (by kernel_rfl)) k0 bel lt0) (trodAll_cons_mk (Below.trod laidOut (by kernel_rfl) (of_decide_eq_true (by kernel_rfl)) k1 bel lt1) (trodAll_cons_mk (Below.trod laidOut (by kernel_rfl) (of_decide_eq_true (by kernel_rfl)) k2 bel lt2) (trodAll_cons_mk (Below.trod laidOut (by kernel_rfl) (of_decide_eq_true (by kernel_rfl)) k3 bel lt3) trodAll_mk0)))), rfl, Below.frame bel _, fun h => by cases h⟩

theorem over : Rows.canonPathsRow.holds Try.pinned (OpenSpec.ofChange Rows.canonPathsSpec) :=
  OpenClaim.holds_of_wide 8 Try.f8 rfl rfl rfl rfl rfl rfl rfl ⟨rfl, rfl, rfl, rfl, rfl⟩ rfl rfl rfl rfl rfl (by kernel_rfl) Try.func8 (by kernel_rfl)
    (of_decide_eq_true (by kernel_rfl)) (by unfold Func.isWrapper; first | (rw [if_pos (by decide +kernel)]; kernel_rfl) | (rw [if_neg (by decide +kernel)]; exact ⟨rfl, rfl⟩))
    (fun os started H enc _ => lifted os started H enc)

end Go.Proofs.Ytpnncadglhlclaa.lawCanonPaths
namespace Go.Proofs.Ytpnncadglhlclaa
/-- The statement. -/
theorem canonPaths_proved : Rows.CanonPathsSaid := lawCanonPaths.over
#print axioms canonPaths_proved
end Go.Proofs.Ytpnncadglhlclaa
