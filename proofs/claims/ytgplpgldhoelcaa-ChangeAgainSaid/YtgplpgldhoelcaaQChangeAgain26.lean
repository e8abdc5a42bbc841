/- The document's answer: the edges of the way that a shortcut stands for. -/
import Derived.Test.YtgplpgldhoelcaaQChangeAgain25
import Derived.Test.YtgplpgldhoelcaaQChangeAgain07
import Derived.Test.YtgplpgldhoelcaaQChangeAgain20
import Derived.Test.YtgplpgldhoelcaaQChangeAgain23
import Derived.Test.YtgplpgldhoelcaaQChangeAgain17
import Derived.Test.YtgplpgldhoelcaaQChangeAgain24
import Derived.Deep.RegionLaw
namespace Go.Proofs.Ytgplpgldhoelcaa
open Go Go.RowKit
attribute [local go_sem] Oper.semAt_some
theorem gLex_dep2 {P : Program} {w0 : World} {ops : Array Oper} {Q : Act → Env → Prop} {a : Act} {G : Env} {o : Oper} {rest : List Oper} {t1 t2 t : Tmp} {p1 p2 : Pr} (hw : Region.wanted o (yielded ops a.tmps) = true) (hp : depB2 ops o G t1 t2 = true) (h1 : G t1 = some p1) (h2 : G t2 = some p2) (ht1 : t1 < a.tmps.size) (ht2 : t2 < a.tmps.size) (hne : t1 ≠ t2) (hd : o.dst = some t) (hlt : t < a.tmps.size)
    (p : Pr) (hl : Lasts p) (hr : ∀ (x : Later w0) (u1 u2 : Value), p1 u1 x.now → p2 u2 x.now → runsTo P (fun u' w' => Grows x.now w' ∧ p u' w') ((execOp ((a.put (some t1) u1).put (some t2) u2).eval o).run P x.now))
    (h : gLex P ops w0 Q rest a (G.upd t p)) : gLex P ops w0 Q (o :: rest) a G := by
  obtain ⟨k1, k2, k3, k4, k4', k5⟩ := dep_spec2 hp
  refine ⟨.inr p, ⟨k1, k2, .inl ⟨hw, hl, ⟨t, hd, hlt⟩, fun w hw a' ha' => ?_⟩⟩, ?_⟩
  · have hv1 := ha' t1 k4
    have hv2 := ha' t2 k4'
    unfold relAt at hv1 hv2
    rw [h1] at hv1
    rw [h2] at hv2
    obtain ⟨u1, hv1, hp1⟩ := hv1
    obtain ⟨u2, hv2, hp2⟩ := hv2
    rw [dep_exec2 k5 ht1 ht2 hne hv1 hv2 (fun t ht => (k3 t ht).imp id (fun e => e.imp id (fun e => by
      have h6 := ha' t ht
      unfold relAt at h6
      rw [e] at h6
      exact h6)))]
    exact hr ⟨w, hw⟩ u1 u2 hp1 hp2
  · rw [hd]
    exact h
def EdP (S : List SI) (i : Nat) (x : Int) (L : List Int) : Prop := 0 ≤ x ∧ x < i ∧ L = edgL S (x.toNat + 1) x.toNat
def GiveEd (w : World) (L : List Int) (e : Ending) (w' : World) : Prop := ∃ A c, e = .returned (.slice A L.length c) ∧ Rd w' A 1 L.length (L.map (.int .i64)) ∧ Grows w w'
set_option maxRecDepth 20000 in
set_option maxHeartbeats 4000000 in
theorem r24Edges (B : Option Addr) (m d : Nat) (A : Option Addr) (n c : Nat) (S : List SI) (r : List Int) (N : Nat) (w : World) (hS : Rd w A 6 n (sis S)) (hn : n ≤ 1000000) (hg : HgOk S r n N) (hN : N ≤ 16) :
    ∀ i, i < n → ∀ W, Grows w W → Calls Try.prog 46 #[.agg #[.slice B m d, .slice A n c], .int .i64 (i : Int)] W (GiveEd W (edgL S (i + 1) i)) := by
  intro i
  induction i using Nat.strongRecOn with
  | _ i ih =>
    intro hi W hW
    have hlen := edgL_len hg
    have hsm : ∀ j, j < n → (edgL S (j + 1) j).length ≤ 1000000 := fun j hj => by
      have h1 := (hlen j hj).1
      have h2 := (hg.rk j hj).1
      have h3 : 2 ^ (gi r (gsi S j).f.toNat).toNat ≤ 2 ^ 16 := Nat.pow_le_pow_right (by omega) (by omega)
      have h4 : (2 : Nat) ^ 16 = 65536 := by decide
      omega
    have HR := hide (hS.grows hW)
    have hS' := hS.grows hW
    obtain ⟨bb, off, rfl, hcc⟩ := hS'.siH (by omega)
    obtain ⟨c1, c2, c3, c4, c5, c6⟩ := hcc i hi
    clear hcc hS'
    by_cases he : 0 ≤ (gsi S i).e
    · have e1 : edgL S (i + 1) i = [(gsi S i).e] := by
        conv => lhs; unfold edgL
        rw [if_pos he]
      rw [e1]
      clear e1 hlen hsm ih hS hg
      generalize (gsi S i).f = sf at *
      generalize (gsi S i).t = st at *
      generalize (gsi S i).w = sw at *
      generalize (gsi S i).e = se at *
      generalize (gsi S i).a = sa at *
      generalize (gsi S i).b = sb at *
      clear hW
      go_enter Try.func46, Try.ntmps46
      go_wp2_with fail
      have hr := Rd.made (w := ((W.alloc (.cells #[.slice B m d, .slice (some ⟨bb, off, none⟩) n c] 63)).alloc (.cells #[.int .i64 sf, .int .i64 st, .int .u64 sw, .int .i64 se, .int .i64 sa, .int .i64 sb] 95))) (t := 3) (n := 1) (size := 1) [.int .i64 se] rfl
      go_ret
      exact ⟨_, _, rfl, by simpa using hr, GG⟩
    · rcases hg.low i hi with h1 | ⟨e0, ⟨a1, a2⟩, b1, b2⟩
      · exact absurd h1 he
      · have e1 : edgL S (i + 1) i = edgL S ((gsi S i).a.toNat + 1) (gsi S i).a.toNat ++ edgL S ((gsi S i).b.toNat + 1) (gsi S i).b.toNat := by
          have e2 : edgL S (i + 1) i = edgL S i (gsi S i).a.toNat ++ edgL S i (gsi S i).b.toNat := by
            conv => lhs; unfold edgL
            rw [if_neg he]
          rw [e2, edgL_fuel hg i _ (by omega) (by omega), edgL_fuel hg i (gsi S i).b.toNat (by omega) (by omega)]
        rw [e1]
        have CE := hide (fun (x : Int) (L : List Int) (X : World) (hx : EdP S i x L) (g : Grows W X) => show Calls Try.prog 46 #[.agg #[.slice B m d, .slice (some ⟨bb, off, none⟩) n c], .int .i64 x] X (GiveEd X L) from by
          obtain ⟨x1, x2, hL⟩ := hx
          rw [hL]
          have := ih x.toNat (by omega) (by omega) X (hW.trans g)
          rw [Int.toNat_of_nonneg x1] at this
          exact this)
        have HEA : EdP S i (gsi S i).a (edgL S ((gsi S i).a.toNat + 1) (gsi S i).a.toNat) := ⟨a1, a2, rfl⟩
        have HEB : EdP S i (gsi S i).b (edgL S ((gsi S i).b.toNat + 1) (gsi S i).b.toNat) := ⟨b1, b2, rfl⟩
        have HLA := hide (hsm (gsi S i).a.toNat (by omega))
        have HLB := hide (hsm (gsi S i).b.toNat (by omega))
        have en : (gsi S i).e < 0 := e0
        clear e1 hlen hsm ih hS hg e0 a1 a2 b1 b2
        generalize edgL S ((gsi S i).a.toNat + 1) (gsi S i).a.toNat = La at *
        generalize edgL S ((gsi S i).b.toNat + 1) (gsi S i).b.toNat = Lb at *
        generalize (gsi S i).f = sf at *
        generalize (gsi S i).t = st at *
        generalize (gsi S i).w = sw at *
        generalize (gsi S i).e = se at *
        generalize (gsi S i).a = sa at *
        generalize (gsi S i).b = sb at *
        have CJ := hide (fun (A1 : Option Addr) (k1 : Nat) (A2 : Option Addr) (k2 : Nat) (X : World) (h1 : Rd X A1 1 La.length (La.map (.int .i64))) (h2 : Rd X A2 1 Lb.length (Lb.map (.int .i64))) => r1Join A1 La.length k1 La A2 Lb.length k2 Lb X h1 HLA.out h2 HLB.out)
        unfold GiveEd at CE
        clear hW
        go_enter Try.func46, Try.ntmps46
        go_upto_region 4 with fail
        refine wp_region_gen (by kernel_rfl) (by kernel_rfl) ?_
        (repeat' (first | (refine gLex_val0 rfl (by kernel_rfl) (fun K hK => ?_); (go_simp; (try (simp only [↓IntWalk.iteOmega]; try go_simp)); (try simp (disch := omega) only [IntWalk.i64_in]); (try simp (disch := omega) only [IntWalk.u64_in]); first | (refine hK _ ?_; clear hK K) | (apply Exists.intro; refine ⟨fun x => ?_, hK _ ?_⟩; (first | fail); clear hK K))) | (refine gLex_undef rfl rfl rfl (by kernel_rfl) (fun K hK => ?_); go_simp; refine hK _ ?_; clear hK K) | (refine gLex_ask rfl rfl rfl ?_; first | (apply gAsk_yes; kernel_rfl; intro K hK; (go_simp; (try (simp only [↓IntWalk.iteOmega]; try go_simp)); (try simp (disch := omega) only [IntWalk.i64_in]); (try simp (disch := omega) only [IntWalk.u64_in]); first | (refine hK _ ?_; clear hK K) | (apply Exists.intro; refine ⟨fun x => ?_, hK _ ?_⟩; (first | fail); clear hK K))) | ((first | apply gAsk_no1 | apply gAsk_no2); kernel_rfl; intro K hK; simp [go_sem]; refine hK _ ?_; clear hK K))))
        refine gLex_propG (by kernel_rfl) (by kernel_rfl) rfl (by simp) (RowP La.length (La.map (.int .i64))) (RowP.lasts _ _) (fun y => by
          go_simp
          refine (CE.out _ _ _ HEA GG).mono ?_
          rintro e w' ⟨A1, k1, rfl, h1, hg⟩
          exact ⟨_, rfl, hg, A1, k1, rfl, h1⟩) ?_
        (repeat' (first | (refine gLex_val0 rfl (by kernel_rfl) (fun K hK => ?_); (go_simp; (try (simp only [↓IntWalk.iteOmega]; try go_simp)); (try simp (disch := omega) only [IntWalk.i64_in]); (try simp (disch := omega) only [IntWalk.u64_in]); first | (refine hK _ ?_; clear hK K) | (apply Exists.intro; refine ⟨fun x => ?_, hK _ ?_⟩; (first | fail); clear hK K))) | (refine gLex_undef rfl rfl rfl (by kernel_rfl) (fun K hK => ?_); go_simp; refine hK _ ?_; clear hK K) | (refine gLex_ask rfl rfl rfl ?_; first | (apply gAsk_yes; kernel_rfl; intro K hK; (go_simp; (try (simp only [↓IntWalk.iteOmega]; try go_simp)); (try simp (disch := omega) only [IntWalk.i64_in]); (try simp (disch := omega) only [IntWalk.u64_in]); first | (refine hK _ ?_; clear hK K) | (apply Exists.intro; refine ⟨fun x => ?_, hK _ ?_⟩; (first | fail); clear hK K))) | ((first | apply gAsk_no1 | apply gAsk_no2); kernel_rfl; intro K hK; simp [go_sem]; refine hK _ ?_; clear hK K))))
        refine gLex_propG (by kernel_rfl) (by kernel_rfl) rfl (by simp) (RowP Lb.length (Lb.map (.int .i64))) (RowP.lasts _ _) (fun y => by
          go_simp
          refine (CE.out _ _ _ HEB GG).mono ?_
          rintro e w' ⟨A1, k1, rfl, h1, hg⟩
          exact ⟨_, rfl, hg, A1, k1, rfl, h1⟩) ?_
        refine gLex_dep2 (t1 := 20) (t2 := 24) (by kernel_rfl) (by kernel_rfl) rfl rfl (by simp) (by simp) (by decide) rfl (by simp) (RowP (La.length + Lb.length) ((La ++ Lb).map (.int .i64))) (RowP.lasts _ _) (fun y u1 u2 h1 h2 => by
          obtain ⟨A1, k1, rfl, h1⟩ := h1
          obtain ⟨A2, k2, rfl, h2⟩ := h2
          have CJ2 := hide (CJ.out A1 k1 A2 k2 _ h1 h2)
          clear h1 h2
          go_simp
          refine CJ2.out.mono ?_
          rintro e w' ⟨A3, k3, rfl, h3, hg⟩
          exact ⟨_, rfl, hg, A3, k3, rfl, by rw [List.map_append] at h3; exact h3⟩) ?_
        refine gLex_dep (t0 := 25) (by kernel_rfl) (by kernel_rfl) rfl (by simp) rfl (by simp) (RowP (La.length + Lb.length) ((La ++ Lb).map (.int .i64))) (RowP.lasts _ _) (fun y u hu => by
          obtain ⟨A3, k3, e3, h3⟩ := hu
          rw [List.map_append] at h3
          go_simp
          exact ⟨A3, k3, rfl, h3⟩) ?_
        refine gLex_endB (fun x9 => ?_)
        refine AtB.pop rfl (by simp) (fun z1 hz => ?_)
        refine AtB.pop rfl (by simp [Act.put]) (fun z2 _ => ?_)
        refine AtB.pop rfl (by simp [Act.put]) (fun z3 _ => ?_)
        refine AtB.pop rfl (by simp [Act.put]) (fun z4 _ => ?_)
        refine AtB.base ?_
        obtain ⟨A3, k3, rfl, h3⟩ := hz
        simp only [Act.put, List.setIfInBounds_toArray, List.set_cons_zero, List.set_cons_succ]
        go_wp2_with fail
        have H3 := hide h3
        clear h3
        go_ret
        exact ⟨A3, k3, by rw [List.length_append]; rfl, by rw [List.length_append]; exact H3.out, GG⟩
end Go.Proofs.Ytgplpgldhoelcaa

namespace Go.Proofs.Ytgplpgldhoelcaa
open Go Go.RowKit
attribute [local go_sem] Oper.semAt_some
def hgP (S : List SI) (e : Int) (i : Nat) : Bool := (hgs S e (i + 1)).getD i false
def hgI (S : List SI) (e : Int) (k : Nat) : List Nat := (List.range k).filter (hgP S e)
theorem hgI_yes {S : List SI} {e : Int} {k : Nat} (h : hgP S e k = true) : hgI S e (k + 1) = hgI S e k ++ [k] := by
  unfold hgI
  rw [List.range_succ, List.filter_append, List.filter_cons_of_pos h]
  rfl
theorem hgI_no {S : List SI} {e : Int} {k : Nat} (h : hgP S e k = false) : hgI S e (k + 1) = hgI S e k := by
  unfold hgI
  rw [List.range_succ, List.filter_append, List.filter_cons_of_neg (by rw [h]; exact Bool.false_ne_true)]
  simp
theorem hgI_len (S : List SI) (e : Int) (k : Nat) : (hgI S e k).length ≤ k := by
  have := List.length_filter_le (hgP S e) (List.range k)
  simpa [hgI] using this
set_option maxRecDepth 20000 in
set_option maxHeartbeats 4000000 in
theorem r33Hangs (B : Option Addr) (m d : Nat) (A : Option Addr) (n c : Nat) (S : List SI) (l : List Int) (N : Nat) (e : Int) (w : World) (hS : Rd w A 6 n (sis S)) (hn : n ≤ 1000000) (hg : HgOk S l n N) (hN : N ≤ 16) :
    Calls Try.prog 19 #[.agg #[.slice B m d, .slice A n c], .int .i64 e] w fun r w' => ∃ A' c', r = .returned (.slice A' (hgI S e n).length c') ∧ Rd w' A' 1 (hgI S e n).length (nv (hgI S e n)) ∧ Grows w w' := by
  have CE := hide (fun (i : Nat) (hi : i < n) (W : World) (g : Grows w W) => r24Edges B m d A n c S l N w hS hn hg hN i hi W g)
  unfold GiveEd at CE
  have HM := hide (fun (i : Nat) (hi : i < n) => hgs_mem hg e i hi)
  have HL := hide (fun (i : Nat) (hi : i < n) => show (edgL S (i + 1) i).length ≤ 1000000 from by
    have h1 := (edgL_len hg i hi).1
    have h2 := (hg.rk i hi).1
    have h3 : 2 ^ (gi l (gsi S i).f.toNat).toNat ≤ 2 ^ 16 := Nat.pow_le_pow_right (by omega) (by omega)
    have h4 : (2 : Nat) ^ 16 = 65536 := by decide
    omega)
  clear hS hg
  go_enter Try.func19, Try.ntmps19
  go_wp2_with fail
  have hw1 : Grows w (w.alloc (.cells #[.slice B m d, .slice A n c] 63)) := (Grows.refl _).new _
  have a3 : Arr (w.alloc (.cells #[.slice B m d, .slice A n c] 63)) w.heap.size 63 [.slice B m d, .slice A n c] := Arr.make _ _ _
  generalize w.alloc (.cells #[.slice B m d, .slice A n c] 63) = W1 at *
  generalize w.heap.size = b3 at *
  obtain ⟨y1, rfl⟩ := hw1.later
  go_loopw [5, 6] (fun s9 i wr => ∃ k : Nat, k ≤ n ∧ i = .int .i64 (k : Int) ∧ ∃ A9 c9, s9 = .slice A9 (hgI S e k).length c9 ∧ ∃ y : Later y1.now, wr = y.now ∧ Own y.now y1.now.heap.size 3 1 A9 (hgI S e k).length c9 (nv (hgI S e k))) (fun s9 i _ => n - (Go.RowKit.intOf i).toNat)
  case atStart => exact ⟨0, by omega, by go_num, none, 0, rfl, ⟨_, Grows.refl _⟩, rfl, Own.nil _ _ _ _⟩
  case round =>
    obtain ⟨k, hk, rfl, A9, c9, rfl, y, rfl, ho⟩ := hrel
    have HO := hide ho
    have hnl := hgI_len S e k
    clear ho
    by_cases hlt : k < n
    · have CE2 := hide (fun (W : World) (g : Grows w W) => CE.out k hlt W g)
      have CH := hide (fun (A8 : Option Addr) (c8 : Nat) (W : World) (h8 : Rd W A8 1 (edgL S (k + 1) k).length ((edgL S (k + 1) k).map (.int .i64))) => r1Has A8 _ c8 _ e W h8 (HL.out k hlt))
      rw [HM.out k hlt] at CH
      generalize edgL S (k + 1) k = L at *
      cases hb : (hgs S e (k + 1)).getD k false with
      | true =>
        have HE := hide (hgI_yes hb)
        rw [hb] at CH
        clear hb
        go_wp2_with (first
          | (go_at_call 46; refine (CE2.out _ GG).mono ?_; rintro e w' ⟨A8, c8, rfl, h8, hg⟩; obtain ⟨x1, rfl⟩ := hg.later; have H8 := hide h8; clear h8 hg)
          | (go_at_call 35; refine (CH.out _ _ _ (H8.out.grows GG)).mono ?_; rintro e w' ⟨rfl, rfl⟩)
          | (at_builtin; refine wp_app1 elemInt rfl _ _ rfl y1.now GG (hgI S e k).length c9 A9 _ rfl (HO.out.grows GG) _ _ _ rfl inferInstance rfl (by omega) ?_; intro A3 c3 y3 hown3; have HO3 := hide hown3; clear hown3))
        exact ⟨⟨k + 1, by omega, by go_num, A3, c3, by rw [HE.out, List.length_append, List.length_singleton], y3, rfl, by rw [HE.out, List.length_append, List.length_singleton, show nv (hgI S e k ++ [k]) = nv (hgI S e k) ++ [.int .i64 (k : Int)] by simp [nv]]; exact HO3.out⟩, by simp [Go.RowKit.intOf]; omega⟩
      | false =>
        have HE := hide (hgI_no hb)
        rw [hb] at CH
        clear hb
        go_wp2_with (first
          | (go_at_call 46; refine (CE2.out _ GG).mono ?_; rintro e w' ⟨A8, c8, rfl, h8, hg⟩; obtain ⟨x1, rfl⟩ := hg.later; have H8 := hide h8; clear h8 hg)
          | (go_at_call 35; refine (CH.out _ _ _ (H8.out.grows GG)).mono ?_; rintro e w' ⟨rfl, rfl⟩))
        exact ⟨⟨k + 1, by omega, by go_num, A9, c9, by rw [HE.out], ⟨_, GG⟩, rfl, by rw [HE.out]; exact HO.out.grows (show Grows y.now x1.now from GG)⟩, by simp [Go.RowKit.intOf]; omega⟩
    · obtain rfl : k = n := by omega
      go_wp2_with fail
      go_ret
      exact ⟨A9, c9, rfl, HO.out.rd, GG⟩
end Go.Proofs.Ytgplpgldhoelcaa

namespace Go.Proofs.Ytgplpgldhoelcaa
open Go Go.RowKit
attribute [local go_sem] Oper.semAt_some
set_option maxRecDepth 20000 in
set_option maxHeartbeats 2000000 in
theorem chHangsNil (e : Int) (w : World) : Calls Try.prog 16 #[.pointer none, .int .i64 e] w fun r w' => r = .returned (.slice none 0 0) ∧ Grows w w' := by
  have mk : ∀ w : World, (Instr.makeSlice 23 (.int .i64 0) (.int .i64 0)).run Try.prog w = .ok (.slice (some ⟨w.heap.size, 0, none⟩) 0 0) (w.alloc (.cells #[] 4)) := fun w => run_makeBools 0 (by omega) w
  have CZ := hide (fun (W : World) => hiSizeNil W)
  go_enter Try.func16, Try.ntmps16
  go_wp2_with (go_at_call 42; refine (CZ.out _).mono ?_; rintro e w' ⟨rfl, rfl⟩)
  go_loopw [4, 14] (fun s4 i wr => s4 = .slice none 0 0 ∧ i = .int .i64 0 ∧ ∃ y : Later w, wr = y.now) (fun _ _ _ => 0)
  case atStart => exact ⟨rfl, rfl, ⟨_, GG⟩, rfl⟩
  case round =>
    obtain ⟨rfl, rfl, x, rfl⟩ := hrel
    go_wp2_with fail
    go_ret
    exact ⟨rfl, GG⟩
end Go.Proofs.Ytgplpgldhoelcaa

namespace Go.Proofs.Ytgplpgldhoelcaa
open Go Go.RowKit
def blH (S : List SI) (e : Int) (n k : Nat) : List Bool := hgs S e k ++ List.replicate (n - k) false
theorem blH_get {S : List SI} {e : Int} {n k j : Nat} (h : j < k) : (blH S e n k)[j]? = some ((hgs S e k).getD j false) := by
  unfold blH
  rw [List.getElem?_append_left (by rw [hgs_len]; exact h), List.getD_eq_getElem?_getD, List.getElem?_eq_getElem (by rw [hgs_len]; exact h)]
  rfl
theorem blH_set {S : List SI} {e : Int} {n k : Nat} (h : k < n) : (blH S e n k).set k (hgP S e k) = blH S e n (k + 1) := by
  unfold blH hgP
  rw [hgs_at, List.set_append_right _ _ (by rw [hgs_len]; omega), hgs_len, Nat.sub_self]
  obtain ⟨q, hq⟩ : ∃ q, n - k = q + 1 := ⟨n - k - 1, by omega⟩
  rw [hq, show n - (k + 1) = q by omega, List.replicate_succ, List.set_cons_zero]
  conv => rhs; unfold hgs
  rw [List.append_assoc]
  rfl
end Go.Proofs.Ytgplpgldhoelcaa

namespace Go.Proofs.Ytgplpgldhoelcaa
open Go Go.RowKit
attribute [local go_sem] Oper.semAt_some
theorem Arr.apd3 {w w' : World} {B n c g : Nat} {A : Option Addr} {xs cs : List Value} {e t : TypeId} (h : Arr w g t cs) (ho : Own w B e 1 A n c xs) (hg : w.grownBy w' (Value.slice A n c).ownBlock) (hte : t ≠ e) : Arr w' g t cs :=
  h.touch (S := fun k => (Value.slice A n c).ownBlock = some k) ((Touch.refl _ w).grown hg (fun k hk => .inl hk)) (fun e2 => by
    cases A with
    | none => simp [Value.ownBlock] at e2
    | some p =>
      simp [Value.ownBlock] at e2
      have h1 := (ho.ty p rfl).2
      rw [e2] at h1
      exact hte (h.ty.one h1))
def GiveHg (w : World) (S : List SI) (e : Int) (n : Nat) (q : Ending) (w' : World) : Prop := ∃ A' c', q = .returned (.slice A' (hgI S e n).length c') ∧ Rd w' A' 1 (hgI S e n).length (nv (hgI S e n)) ∧ Grows w w'
set_option maxRecDepth 20000 in
set_option maxHeartbeats 4000000 in
theorem chHangs (b N : Nat) (E : List Edg) (r : List Nat) (S : List SI) (l : List Int) (M n : Nat) (e : Int) (w : World) (h : HiAt w b N E r S) (hsl : S.length = n) (hn : n ≤ 1000000) (hg : HgOk S l n M) :
    Calls Try.prog 16 #[.pointer (some ⟨b, 0, none⟩), .int .i64 e] w (GiveHg w S e n) := by
  unfold GiveHg
  have mk := fun w => run_makeBools n (by omega) w
  have CZ := hide (fun (W : World) (g : Grows w W) => hiSize b N E r S W (h.grow g))
  rw [hsl] at CZ
  have CS := hide (fun (i : Nat) (hi : i < n) (W : World) (g : Grows w W) => hiShortcut b N E r S i W (h.grow g) (by omega))
  have HGO := hide hg
  clear h hg
  go_enter Try.func16, Try.ntmps16
  go_wp2_with (go_at_call 42; refine (CZ.out _ GG).mono ?_; rintro e w' ⟨rfl, rfl⟩)
  have ha : Arr (w.alloc (.cells (Array.replicate n (Value.bool false)) 4)) w.heap.size 4 ((blH S e n 0).map .bool) := by
    have h1 := Arr.make w (List.replicate n (Value.bool false)) 4
    have h2 : (blH S e n 0).map Value.bool = List.replicate n (Value.bool false) := by simp [blH, hgs]
    rw [h2]
    simpa using h1
  have hgw : Grows w (w.alloc (.cells (Array.replicate n (Value.bool false)) 4)) := (Grows.refl _).new _
  generalize w.alloc (.cells (Array.replicate n (Value.bool false)) 4) = W1 at *
  obtain ⟨g0, hg0⟩ : ∃ g0, g0 = w.heap.size := ⟨_, rfl⟩
  have hg1 : w.heap.size ≤ g0 := by omega
  rw [← hg0] at ha ⊢
  clear hg0
  obtain ⟨y1, rfl⟩ := hgw.later
  go_loopw [4, 14] (fun s4 i wr => ∃ k : Nat, k ≤ n ∧ i = .int .i64 (k : Int) ∧ ∃ A9 c9, s4 = .slice A9 (hgI S e k).length c9 ∧ ∃ y : Later w, wr = y.now ∧ Arr y.now g0 4 ((blH S e n k).map .bool) ∧ Own y.now w.heap.size 3 1 A9 (hgI S e k).length c9 (nv (hgI S e k))) (fun s4 i _ => n - (Go.RowKit.intOf i).toNat)
  case atStart => exact ⟨0, by omega, by go_num, none, 0, rfl, y1, rfl, ha, Own.nil _ _ _ _⟩
  case round =>
    obtain ⟨k, hk, rfl, A9, c9, rfl, y, rfl, ab, ho⟩ := hrel
    have HO := hide ho
    have hnl := hgI_len S e k
    clear ho
    by_cases hlt : k < n
    · have CKS := hide (fun (W : World) (g : Grows w W) => CS.out k hlt W g)
      have e1 : siVal (gsi S k) = .agg #[.int .i64 (gsi S k).f, .int .i64 (gsi S k).t, .int .u64 (gsi S k).w, .int .i64 (gsi S k).e, .int .i64 (gsi S k).a, .int .i64 (gsi S k).b] := rfl
      rw [e1] at CKS
      have mk1 : Mine y.now ⟨g0, k, none⟩ (.bool false) := ab.mine k (by
        unfold blH
        rw [List.getElem?_map, List.getElem?_append_right (by rw [hgs_len]; omega), hgs_len, Nat.sub_self]
        simp [show 0 < n - k by omega])
      have low := HGO.out.low k hlt
      have hset := blH_set (S := S) (e := e) (n := n) (k := k) hlt
      have hcell : ∀ j v, j < k → (hgs S e k).getD j false = v → Mine y.now ⟨g0, j, none⟩ (.bool v) := fun j v hj hv => ab.mine j (by rw [List.getElem?_map, blH_get hj, hv]; rfl)
      by_cases he : 0 ≤ (gsi S k).e
      · have hp : hgP S e k = decide ((gsi S k).e = e) := by unfold hgP; rw [hgs_at, if_pos he]
        by_cases hq : (gsi S k).e = e
        · rw [decide_eq_true hq] at hp
          have b1 : ((gsi S k).e == e) = true := by simpa using hq
          clear low hcell
          clear e1
          generalize (gsi S k).f = sf at *
          generalize (gsi S k).t = st at *
          generalize (gsi S k).w = sw at *
          generalize (gsi S k).e = se at *
          generalize (gsi S k).a = sa at *
          generalize (gsi S k).b = sb at *
          rw [hp] at hset
          have HE := hide (hgI_yes hp)
          go_upto_region 9 with (go_at_call 43; refine (CKS.out _ GG).mono ?_; rintro e w' ⟨rfl, hg⟩; obtain ⟨x1, rfl⟩ := hg.later; clear hg)
          have ab1 := ((ab.grow x1.grows).grow ((Grows.refl _).new (.cells #[.int .i64 sf, .int .i64 st, .int .u64 sw, .int .i64 e, .int .i64 sa, .int .i64 sb] 95))).set k (.bool true)
          have hG : Grows w ((x1.now.alloc (.cells #[.int .i64 sf, .int .i64 st, .int .u64 sw, .int .i64 e, .int .i64 sa, .int .i64 sb] 95)).setCell ⟨g0, k, none⟩ (.bool true)) := GG
          have ht : Touch (fun q => q = g0) y.now ((x1.now.alloc (.cells #[.int .i64 sf, .int .i64 st, .int .u64 sw, .int .i64 e, .int .i64 sa, .int .i64 sb] 95)).setCell ⟨g0, k, none⟩ (.bool true)) := ((x1.grows.trans ((Grows.refl _).new _)).touch (fun q => q = g0)).set (p := ⟨g0, k, none⟩) (.inl rfl) _
          have HO2 := hide (HO.out.touch ht (fun p hp => HO.out.not_arr ab (by decide) p hp))
          rw [← List.map_set, hset] at ab1
          generalize (x1.now.alloc (.cells #[.int .i64 sf, .int .i64 st, .int .u64 sw, .int .i64 e, .int .i64 sa, .int .i64 sb] 95)).setCell ⟨g0, k, none⟩ (.bool true) = WX at *
          have mk2 : Mine WX ⟨g0, k, none⟩ (.bool true) := ab1.mine k (by rw [List.getElem?_map, blH_get (by omega)]; rw [show (hgs S e (k + 1)).getD k false = true from hp]; rfl)
          have AB := hide ab1
          clear hp
          obtain ⟨z, rfl⟩ := hG.later
          clear ht hG HO ab ab1 hset
          go_wp2_with (at_builtin; refine wp_app1M elemInt rfl _ _ rfl w GG (hgI S e k).length c9 A9 _ rfl (HO2.out.new _) _ _ _ rfl inferInstance rfl (by omega) ?_; intro A3 c3 y3 hown3 hgr3; have HO3 := hide hown3; have AB3 := hide ((AB.out.grow ((Grows.refl _).new _)).apd3 (HO2.out.new _) hgr3 (by decide)); clear hown3 hgr3)
          exact ⟨⟨k + 1, by omega, by go_num, A3, c3, by rw [HE.out, List.length_append, List.length_singleton], y3, rfl, AB3.out, by rw [HE.out, List.length_append, List.length_singleton, show nv (hgI S e k ++ [k]) = nv (hgI S e k) ++ [.int .i64 (k : Int)] by simp [nv]]; exact HO3.out⟩, by simp [Go.RowKit.intOf]; omega⟩
        · rw [decide_eq_false hq] at hp
          have b1 : ((gsi S k).e == e) = false := by simpa using hq
          clear low hq hcell
          clear e1
          generalize (gsi S k).f = sf at *
          generalize (gsi S k).t = st at *
          generalize (gsi S k).w = sw at *
          generalize (gsi S k).e = se at *
          generalize (gsi S k).a = sa at *
          generalize (gsi S k).b = sb at *
          rw [hp] at hset
          have HE := hide (hgI_no hp)
          go_upto_region 9 with (go_at_call 43; refine (CKS.out _ GG).mono ?_; rintro e w' ⟨rfl, hg⟩; obtain ⟨x1, rfl⟩ := hg.later; clear hg)
          have ab1 := ((ab.grow x1.grows).grow ((Grows.refl _).new (.cells #[.int .i64 sf, .int .i64 st, .int .u64 sw, .int .i64 se, .int .i64 sa, .int .i64 sb] 95))).set k (.bool false)
          have hG : Grows w ((x1.now.alloc (.cells #[.int .i64 sf, .int .i64 st, .int .u64 sw, .int .i64 se, .int .i64 sa, .int .i64 sb] 95)).setCell ⟨g0, k, none⟩ (.bool false)) := GG
          have ht : Touch (fun q => q = g0) y.now ((x1.now.alloc (.cells #[.int .i64 sf, .int .i64 st, .int .u64 sw, .int .i64 se, .int .i64 sa, .int .i64 sb] 95)).setCell ⟨g0, k, none⟩ (.bool false)) := ((x1.grows.trans ((Grows.refl _).new _)).touch (fun q => q = g0)).set (p := ⟨g0, k, none⟩) (.inl rfl) _
          have HO2 := hide (HO.out.touch ht (fun p hp => HO.out.not_arr ab (by decide) p hp))
          rw [← List.map_set, hset] at ab1
          generalize (x1.now.alloc (.cells #[.int .i64 sf, .int .i64 st, .int .u64 sw, .int .i64 se, .int .i64 sa, .int .i64 sb] 95)).setCell ⟨g0, k, none⟩ (.bool false) = WX at *
          have mk2 : Mine WX ⟨g0, k, none⟩ (.bool false) := ab1.mine k (by rw [List.getElem?_map, blH_get (by omega)]; rw [show (hgs S e (k + 1)).getD k false = false from hp]; rfl)
          have AB := hide ab1
          clear hp
          obtain ⟨z, rfl⟩ := hG.later
          clear ht hG HO ab ab1 hset
          go_wp2_with fail
          exact ⟨⟨k + 1, by omega, by go_num, A9, c9, by rw [HE.out], z, rfl, AB.out, by rw [HE.out]; exact HO2.out⟩, by simp [Go.RowKit.intOf]; omega⟩
      · have hp : hgP S e k = ((hgs S e k).getD (gsi S k).a.toNat false || (hgs S e k).getD (gsi S k).b.toNat false) := by unfold hgP; rw [hgs_at, if_neg he]
        rcases low with h1 | ⟨e0, ⟨a1, a2⟩, b1, b2⟩
        · exact absurd h1 he
        obtain ⟨na, hna⟩ : ∃ na : Nat, (gsi S k).a = (na : Int) := ⟨(gsi S k).a.toNat, by omega⟩
        obtain ⟨nb, hnb⟩ : ∃ nb : Nat, (gsi S k).b = (nb : Int) := ⟨(gsi S k).b.toNat, by omega⟩
        rw [hna, hnb, Int.toNat_natCast, Int.toNat_natCast] at hp
        rw [hna, hnb] at CKS
        rw [hna] at a1 a2
        rw [hnb] at b1 b2
        have la : na < k := by omega
        have lb : nb < k := by omega
        clear a1 a2 b1 b2 he hna hnb
        cases hva : (hgs S e k).getD na false with
        | true =>
          rw [hva, Bool.true_or] at hp
          have ca := hcell na true la hva
          clear hva hcell
          clear e1
          generalize (gsi S k).f = sf at *
          generalize (gsi S k).t = st at *
          generalize (gsi S k).w = sw at *
          generalize (gsi S k).e = se at *
          rw [hp] at hset
          have HE := hide (hgI_yes hp)
          go_upto_region 9 with (go_at_call 43; refine (CKS.out _ GG).mono ?_; rintro e w' ⟨rfl, hg⟩; obtain ⟨x1, rfl⟩ := hg.later; clear hg)
          have ab1 := ((ab.grow x1.grows).grow ((Grows.refl _).new (.cells #[.int .i64 sf, .int .i64 st, .int .u64 sw, .int .i64 se, .int .i64 na, .int .i64 nb] 95))).set k (.bool true)
          have hG : Grows w ((x1.now.alloc (.cells #[.int .i64 sf, .int .i64 st, .int .u64 sw, .int .i64 se, .int .i64 na, .int .i64 nb] 95)).setCell ⟨g0, k, none⟩ (.bool true)) := GG
          have ht : Touch (fun q => q = g0) y.now ((x1.now.alloc (.cells #[.int .i64 sf, .int .i64 st, .int .u64 sw, .int .i64 se, .int .i64 na, .int .i64 nb] 95)).setCell ⟨g0, k, none⟩ (.bool true)) := ((x1.grows.trans ((Grows.refl _).new _)).touch (fun q => q = g0)).set (p := ⟨g0, k, none⟩) (.inl rfl) _
          have HO2 := hide (HO.out.touch ht (fun p hp => HO.out.not_arr ab (by decide) p hp))
          rw [← List.map_set, hset] at ab1
          generalize (x1.now.alloc (.cells #[.int .i64 sf, .int .i64 st, .int .u64 sw, .int .i64 se, .int .i64 na, .int .i64 nb] 95)).setCell ⟨g0, k, none⟩ (.bool true) = WX at *
          have mk2 : Mine WX ⟨g0, k, none⟩ (.bool true) := ab1.mine k (by rw [List.getElem?_map, blH_get (by omega)]; rw [show (hgs S e (k + 1)).getD k false = true from hp]; rfl)
          have AB := hide ab1
          clear hp
          obtain ⟨z, rfl⟩ := hG.later
          clear ht hG HO ab ab1 hset
          go_wp2_with (at_builtin; refine wp_app1M elemInt rfl _ _ rfl w GG (hgI S e k).length c9 A9 _ rfl (HO2.out.new _) _ _ _ rfl inferInstance rfl (by omega) ?_; intro A3 c3 y3 hown3 hgr3; have HO3 := hide hown3; have AB3 := hide ((AB.out.grow ((Grows.refl _).new _)).apd3 (HO2.out.new _) hgr3 (by decide)); clear hown3 hgr3)
          exact ⟨⟨k + 1, by omega, by go_num, A3, c3, by rw [HE.out, List.length_append, List.length_singleton], y3, rfl, AB3.out, by rw [HE.out, List.length_append, List.length_singleton, show nv (hgI S e k ++ [k]) = nv (hgI S e k) ++ [.int .i64 (k : Int)] by simp [nv]]; exact HO3.out⟩, by simp [Go.RowKit.intOf]; omega⟩
        | false =>
          rw [hva, Bool.false_or] at hp
          have ca := hcell na false la hva
          clear hva
          cases hvb : (hgs S e k).getD nb false with
          | true =>
            rw [hvb] at hp
            have cb := hcell nb true lb hvb
            clear hvb hcell
            clear e1
            generalize (gsi S k).f = sf at *
            generalize (gsi S k).t = st at *
            generalize (gsi S k).w = sw at *
            generalize (gsi S k).e = se at *
            rw [hp] at hset
            have HE := hide (hgI_yes hp)
            go_upto_region 9 with (go_at_call 43; refine (CKS.out _ GG).mono ?_; rintro e w' ⟨rfl, hg⟩; obtain ⟨x1, rfl⟩ := hg.later; clear hg)
            have ab1 := ((ab.grow x1.grows).grow ((Grows.refl _).new (.cells #[.int .i64 sf, .int .i64 st, .int .u64 sw, .int .i64 se, .int .i64 na, .int .i64 nb] 95))).set k (.bool true)
            have hG : Grows w ((x1.now.alloc (.cells #[.int .i64 sf, .int .i64 st, .int .u64 sw, .int .i64 se, .int .i64 na, .int .i64 nb] 95)).setCell ⟨g0, k, none⟩ (.bool true)) := GG
            have ht : Touch (fun q => q = g0) y.now ((x1.now.alloc (.cells #[.int .i64 sf, .int .i64 st, .int .u64 sw, .int .i64 se, .int .i64 na, .int .i64 nb] 95)).setCell ⟨g0, k, none⟩ (.bool true)) := ((x1.grows.trans ((Grows.refl _).new _)).touch (fun q => q = g0)).set (p := ⟨g0, k, none⟩) (.inl rfl) _
            have HO2 := hide (HO.out.touch ht (fun p hp => HO.out.not_arr ab (by decide) p hp))
            rw [← List.map_set, hset] at ab1
            generalize (x1.now.alloc (.cells #[.int .i64 sf, .int .i64 st, .int .u64 sw, .int .i64 se, .int .i64 na, .int .i64 nb] 95)).setCell ⟨g0, k, none⟩ (.bool true) = WX at *
            have mk2 : Mine WX ⟨g0, k, none⟩ (.bool true) := ab1.mine k (by rw [List.getElem?_map, blH_get (by omega)]; rw [show (hgs S e (k + 1)).getD k false = true from hp]; rfl)
            have AB := hide ab1
            clear hp
            obtain ⟨z, rfl⟩ := hG.later
            clear ht hG HO ab ab1 hset
            go_wp2_with (at_builtin; refine wp_app1M elemInt rfl _ _ rfl w GG (hgI S e k).length c9 A9 _ rfl (HO2.out.new _) _ _ _ rfl inferInstance rfl (by omega) ?_; intro A3 c3 y3 hown3 hgr3; have HO3 := hide hown3; have AB3 := hide ((AB.out.grow ((Grows.refl _).new _)).apd3 (HO2.out.new _) hgr3 (by decide)); clear hown3 hgr3)
            exact ⟨⟨k + 1, by omega, by go_num, A3, c3, by rw [HE.out, List.length_append, List.length_singleton], y3, rfl, AB3.out, by rw [HE.out, List.length_append, List.length_singleton, show nv (hgI S e k ++ [k]) = nv (hgI S e k) ++ [.int .i64 (k : Int)] by simp [nv]]; exact HO3.out⟩, by simp [Go.RowKit.intOf]; omega⟩
          | false =>
            rw [hvb] at hp
            have cb := hcell nb false lb hvb
            clear hvb hcell
            clear e1
            generalize (gsi S k).f = sf at *
            generalize (gsi S k).t = st at *
            generalize (gsi S k).w = sw at *
            generalize (gsi S k).e = se at *
            rw [hp] at hset
            have HE := hide (hgI_no hp)
            go_upto_region 9 with (go_at_call 43; refine (CKS.out _ GG).mono ?_; rintro e w' ⟨rfl, hg⟩; obtain ⟨x1, rfl⟩ := hg.later; clear hg)
            have ab1 := ((ab.grow x1.grows).grow ((Grows.refl _).new (.cells #[.int .i64 sf, .int .i64 st, .int .u64 sw, .int .i64 se, .int .i64 na, .int .i64 nb] 95))).set k (.bool false)
            have hG : Grows w ((x1.now.alloc (.cells #[.int .i64 sf, .int .i64 st, .int .u64 sw, .int .i64 se, .int .i64 na, .int .i64 nb] 95)).setCell ⟨g0, k, none⟩ (.bool false)) := GG
            have ht : Touch (fun q => q = g0) y.now ((x1.now.alloc (.cells #[.int .i64 sf, .int .i64 st, .int .u64 sw, .int .i64 se, .int .i64 na, .int .i64 nb] 95)).setCell ⟨g0, k, none⟩ (.bool false)) := ((x1.grows.trans ((Grows.refl _).new _)).touch (fun q => q = g0)).set (p := ⟨g0, k, none⟩) (.inl rfl) _
            have HO2 := hide (HO.out.touch ht (fun p hp => HO.out.not_arr ab (by decide) p hp))
            rw [← List.map_set, hset] at ab1
            generalize (x1.now.alloc (.cells #[.int .i64 sf, .int .i64 st, .int .u64 sw, .int .i64 se, .int .i64 na, .int .i64 nb] 95)).setCell ⟨g0, k, none⟩ (.bool false) = WX at *
            have mk2 : Mine WX ⟨g0, k, none⟩ (.bool false) := ab1.mine k (by rw [List.getElem?_map, blH_get (by omega)]; rw [show (hgs S e (k + 1)).getD k false = false from hp]; rfl)
            have AB := hide ab1
            clear hp
            obtain ⟨z, rfl⟩ := hG.later
            clear ht hG HO ab ab1 hset
            go_wp2_with fail
            exact ⟨⟨k + 1, by omega, by go_num, A9, c9, by rw [HE.out], z, rfl, AB.out, by rw [HE.out]; exact HO2.out⟩, by simp [Go.RowKit.intOf]; omega⟩
    · obtain rfl : k = n := by omega
      go_wp2_with fail
      go_ret
      exact ⟨A9, c9, rfl, HO.out.rd, GG⟩
end Go.Proofs.Ytgplpgldhoelcaa

namespace Go.Proofs.Ytgplpgldhoelcaa
open Go Go.RowKit
attribute [local go_sem] Oper.semAt_some
theorem gsi_take {S : List SI} {k j : Nat} (h : j < k) : gsi (S.take k) j = gsi S j := by
  unfold gsi
  rw [List.getD_eq_getElem?_getD, List.getD_eq_getElem?_getD, List.getElem?_take_of_lt h]
theorem madeOne_take {E : List Edg} {r : List Int} {S : List SI} {k j : Nat} (h : j < k) : madeOne E r (S.take k) j = madeOne E r S j := by
  have e : twoSB r (S.take k) j = twoSB r S j := by
    unfold twoSB
    rw [gsi_take h]
    by_cases hc : (gsi S j).e = -1 ∧ 0 ≤ (gsi S j).a ∧ (gsi S j).a < j ∧ 0 ≤ (gsi S j).b ∧ (gsi S j).b < j ∧ (gsi S j).f ≠ (gsi S j).t
    · rw [gsi_take (show (gsi S j).a.toNat < k by omega), gsi_take (show (gsi S j).b.toNat < k by omega)]
    · rw [decide_eq_false hc, Bool.false_and, Bool.false_and]
  unfold madeOne
  rw [e, gsi_take h]
theorem sis_take (S : List SI) : ∀ k, sis (S.take k) = (sis S).take (k * 6) := by
  induction S with
  | nil => intro k; simp [sis]
  | cons s S ih =>
    intro k
    cases k with
    | zero => simp [sis]
    | succ k =>
      have e1 : sis (s :: S) = siCells s ++ sis S := rfl
      have e2 : sis ((s :: S).take (k + 1)) = siCells s ++ sis (S.take k) := rfl
      rw [e1, e2, ih k, List.take_append]
      have hl : (siCells s).length = 6 := rfl
      have h6 : (siCells s).take ((k + 1) * 6) = siCells s := List.take_of_length_le (by rw [hl]; omega)
      rw [hl, h6, show (k + 1) * 6 - 6 = k * 6 by omega]
theorem Rd.sis_take {w : World} {A : Option Addr} {n k : Nat} {S : List SI} (h : Rd w A 6 n (sis S)) (hk : k ≤ n) : Rd w A 6 k (sis (S.take k)) := by
  have hl := h.1
  rw [sis_len] at hl
  refine ⟨by rw [sis_len, List.length_take]; omega, fun h0 h1 => ?_⟩
  obtain ⟨b, off, e, hc⟩ := h.2 (by omega) h1
  refine ⟨b, off, e, fun j u hu => hc j u ?_⟩
  rw [Go.Proofs.Ytgplpgldhoelcaa.sis_take] at hu
  rw [List.getElem?_take] at hu
  split at hu
  · exact hu
  · cases hu
theorem madeSB_take {N : Int} {E : List Edg} {r : List Int} {S : List SI} {k : Nat} (h2 : (r.length : Int) = N ∧ rkB r = true) (hk : k < S.length) (ha : ∀ j, j < k → madeOne E r S j = true) : madeSB N E r (S.take (k + 1)) = madeOne E r S k := by
  unfold madeSB
  rw [decide_eq_true h2.1, h2.2, Bool.true_and, Bool.true_and]
  have hl : (S.take (k + 1)).length = k + 1 := by rw [List.length_take]; omega
  rw [hl]
  cases hm : madeOne E r S k with
  | true =>
    refine decide_eq_true fun j hj => ?_
    rw [madeOne_take hj]
    by_cases e : j = k
    · rw [e]; exact hm
    · exact ha j (by omega)
  | false =>
    refine decide_eq_false fun h => ?_
    have := h k (by omega)
    rw [madeOne_take (by omega), hm] at this
    cases this
set_option maxRecDepth 20000 in
set_option maxHeartbeats 4000000 in
theorem r21Made (N : Int) (A : Option Addr) (n c : Nat) (E : List Edg) (B : Option Addr) (m d : Nat) (r : List Int) (A2 : Option Addr) (n2 c2 : Nat) (S : List SI) (w : World) (h : Rd w A 3 n (esCells E)) (hn : n ≤ 1000000) (hr : Rd w B 1 m (r.map (.int .i64))) (hm : m ≤ 1000000) (hS : Rd w A2 6 n2 (sis S)) (hn2 : n2 ≤ 1000000) (hcap : n2 ≤ c2) :
    Calls Try.prog 48 #[.agg #[.int .i64 N, .slice A n c], .agg #[.slice B m d, .slice A2 n2 c2]] w fun e w' => e = .returned (.tuple #[.int .i64 (hmR N E r S).1, .bool (hmR N E r S).2]) ∧ Grows w w' := by
  have hrl : r.length = m := by simpa using hr.len
  have hsl : S.length = n2 := by have := hS.1; rw [sis_len] at this; omega
  have C0 := hide (fun (W : World) (g : Grows w W) => r5Right N A n c E W (h.grows g) hn)
  have C1 := hide (fun (W : World) (g : Grows w W) => r18Right B m d r W (hr.grows g) hm)
  by_cases hok : rightF N E = 0
  · rw [hok] at C0
    by_cases hmn : (m : Int) = N
    · cases hrk : rkB r with
      | false =>
        rw [hrk] at C1
        rw [hmR_rank hok (fun e => by rw [hrk] at e; cases e.2)]
        subst hmn
        clear h hr hS hok hrk hrl hsl
        go_enter Try.func48, Try.ntmps48
        go_wp2_with (first
          | (go_at_call 44; refine (C0.out _ GG).mono ?_; rintro e w' ⟨rfl, hg⟩; obtain ⟨x1, rfl⟩ := hg.later; clear hg)
          | (go_at_call 15; refine (C1.out _ GG).mono ?_; rintro e w' ⟨rfl, hg⟩; obtain ⟨x2, rfl⟩ := hg.later; clear hg))
        exact bodyPost_ret (v := .tuple #[.int .i64 (-1), .bool false]) (by simp [results, Try.results48, go_sem]) rfl ⟨rfl, GG⟩
      | true =>
        rw [hrk] at C1
        have HRK := hide (And.intro (show (r.length : Int) = N by rw [hrl]; exact hmn) hrk)
        have HOK := hide hok
        have HSL := hide hsl
        have CM := hide (fun (k : Nat) (hk : k < n2) (hall : ∀ j, j < k → madeOne E r S j = true) (W : World) (g : Grows w W) => by
          have := r20Made N A n c E B m d r A2 (k + 1) c2 (S.take (k + 1)) W (h.grows g) hn hok (hr.grows g) hm ((hS.grows g).sis_take (by omega)) (by omega)
          rw [madeSB_take (N := N) HRK.out (by rw [HSL.out]; exact hk) hall] at this
          exact this)
        have HS := hide hS
        obtain ⟨RR, hRR⟩ : ∃ RR, RR = hmR N E r S := ⟨_, rfl⟩
        rw [← hRR]
        have HRR := hide hRR
        clear hRR
        subst hmn
        clear h hr hS hok hrk hrl hsl
        go_enter Try.func48, Try.ntmps48
        go_wp2_with (first
          | (go_at_call 44; refine (C0.out _ GG).mono ?_; rintro e w' ⟨rfl, hg⟩; obtain ⟨x1, rfl⟩ := hg.later; clear hg)
          | (go_at_call 15; refine (C1.out _ GG).mono ?_; rintro e w' ⟨rfl, hg⟩; obtain ⟨x2, rfl⟩ := hg.later; clear hg))
        clear C0 C1
        go_loopw [6] (fun i wr => ∃ k : Nat, k ≤ n2 ∧ i = .int .i64 (k : Int) ∧ (∃ y : Later x2.now, wr = y.now) ∧ Hid (∀ j, j < k → madeOne E r S j = true)) (fun i _ => n2 - (Go.RowKit.intOf i).toNat)
        case atStart => exact ⟨0, by omega, by go_num, ⟨⟨_, Grows.refl _⟩, rfl⟩, fun j h => by omega⟩
        case round =>
          obtain ⟨k, hk, rfl, ⟨y, rfl⟩, HA⟩ := hrel
          by_cases hlt : k < n2
          · obtain ⟨bb, off, rfl, hcc⟩ := HS.out.siH (by omega)
            have CM2 := hide (CM.out k hlt HA.out)
            have hkc : k + 1 ≤ c2 := by omega
            have hkI : ((k : Int) + 1).toNat = k + 1 := by omega
            clear hcc CM
            cases hmo : madeOne E r S k with
            | true =>
              rw [hmo] at CM2
              have HN : Hid (∀ j, j < k + 1 → madeOne E r S j = true) := fun j hj => by
                by_cases e : j = k
                · rw [e]; exact hmo
                · exact HA.out j (by omega)
              clear hmo
              go_wp2_with fail
              ((first | refine wp_region_gen (by kernel_rfl) (by kernel_rfl) ?_); (repeat' (first | (refine gLex_val0 rfl (by kernel_rfl) (fun K hK => ?_); (go_simp; (try (simp only [↓IntWalk.iteOmega]; try go_simp)); (try simp (disch := omega) only [IntWalk.i64_in]); (try simp (disch := omega) only [IntWalk.u64_in]); first | (refine hK _ ?_; clear hK K) | (apply Exists.intro; refine ⟨fun x => ?_, hK _ ?_⟩; (first | (go_at_call 87; exact CM2.out _ GG)); clear hK K))) | (refine gLex_undef rfl rfl rfl (by kernel_rfl) (fun K hK => ?_); go_simp; refine hK _ ?_; clear hK K) | (refine gLex_ask rfl rfl rfl ?_; first | (apply gAsk_yes; kernel_rfl; intro K hK; (go_simp; (try (simp only [↓IntWalk.iteOmega]; try go_simp)); (try simp (disch := omega) only [IntWalk.i64_in]); (try simp (disch := omega) only [IntWalk.u64_in]); first | (refine hK _ ?_; clear hK K) | (apply Exists.intro; refine ⟨fun x => ?_, hK _ ?_⟩; (first | (go_at_call 87; exact CM2.out _ GG)); clear hK K))) | ((first | apply gAsk_no1 | apply gAsk_no2); kernel_rfl; intro K hK; simp [go_sem]; refine hK _ ?_; clear hK K) | (apply gAsk_part; kernel_rfl; all_goals (intro h K hK; (try simp only [Bool.not_true] at h); (try simp only [Bool.not_false] at h); (try simp only [decide_eq_true_eq] at h); (try simp only [decide_eq_false_iff_not] at h); first | (exfalso; first | contradiction | omega) | (go_simp; (try (simp only [↓IntWalk.iteOmega]; try go_simp)); (try simp (disch := omega) only [IntWalk.i64_in]); (try simp (disch := omega) only [IntWalk.u64_in]); first | (refine hK _ ?_; clear hK K) | (apply Exists.intro; refine ⟨fun x => ?_, hK _ ?_⟩; (first | (go_at_call 87; exact CM2.out _ GG)); clear hK K))))))); all_goals ((apply gLex_end); intro x))
              go_wp2_with fail
              go_roundw
              case measure => simp [Go.RowKit.intOf]; omega
              case rel => exact ⟨k + 1, by omega, by go_num, ⟨⟨_, GG⟩, rfl⟩, HN⟩
            | false =>
              rw [hmo] at CM2
              have HB : Hid (RR = ((k : Int), false)) := hide (by rw [HRR.out]; exact hmR_at HOK.out HRK.out (by rw [HSL.out]; exact hlt) HA.out hmo)
              clear hmo
              go_wp2_with fail
              ((first | refine wp_region_gen (by kernel_rfl) (by kernel_rfl) ?_); (repeat' (first | (refine gLex_val0 rfl (by kernel_rfl) (fun K hK => ?_); (go_simp; (try (simp only [↓IntWalk.iteOmega]; try go_simp)); (try simp (disch := omega) only [IntWalk.i64_in]); (try simp (disch := omega) only [IntWalk.u64_in]); first | (refine hK _ ?_; clear hK K) | (apply Exists.intro; refine ⟨fun x => ?_, hK _ ?_⟩; (first | (go_at_call 87; exact CM2.out _ GG)); clear hK K))) | (refine gLex_undef rfl rfl rfl (by kernel_rfl) (fun K hK => ?_); go_simp; refine hK _ ?_; clear hK K) | (refine gLex_ask rfl rfl rfl ?_; first | (apply gAsk_yes; kernel_rfl; intro K hK; (go_simp; (try (simp only [↓IntWalk.iteOmega]; try go_simp)); (try simp (disch := omega) only [IntWalk.i64_in]); (try simp (disch := omega) only [IntWalk.u64_in]); first | (refine hK _ ?_; clear hK K) | (apply Exists.intro; refine ⟨fun x => ?_, hK _ ?_⟩; (first | (go_at_call 87; exact CM2.out _ GG)); clear hK K))) | ((first | apply gAsk_no1 | apply gAsk_no2); kernel_rfl; intro K hK; simp [go_sem]; refine hK _ ?_; clear hK K) | (apply gAsk_part; kernel_rfl; all_goals (intro h K hK; (try simp only [Bool.not_true] at h); (try simp only [Bool.not_false] at h); (try simp only [decide_eq_true_eq] at h); (try simp only [decide_eq_false_iff_not] at h); first | (exfalso; first | contradiction | omega) | (go_simp; (try (simp only [↓IntWalk.iteOmega]; try go_simp)); (try simp (disch := omega) only [IntWalk.i64_in]); (try simp (disch := omega) only [IntWalk.u64_in]); first | (refine hK _ ?_; clear hK K) | (apply Exists.intro; refine ⟨fun x => ?_, hK _ ?_⟩; (first | (go_at_call 87; exact CM2.out _ GG)); clear hK K))))))); all_goals ((apply gLex_end); intro x))
              go_wp2_with fail
              exact bodyPost_ret (v := .tuple #[.int .i64 (k : Int), .bool false]) (by simp [results, Try.results48, go_sem]) rfl ⟨by rw [HB.out], GG⟩
          · obtain rfl : k = n2 := by omega
            have HB : Hid (RR = (0, true)) := hide (by rw [HRR.out]; exact hmR_all HOK.out HRK.out (by rw [HSL.out]; exact HA.out))
            go_wp2_with fail
            exact bodyPost_ret (v := .tuple #[.int .i64 0, .bool true]) (by simp [results, Try.results48, go_sem]) rfl ⟨by rw [HB.out], GG⟩
    · rw [hmR_rank hok (fun e => hmn (by rw [← hrl]; exact e.1))]
      have hne : ((m : Int) != N) = true := by simpa using hmn
      clear h hr hS hok hmn hrl hsl
      go_enter Try.func48, Try.ntmps48
      go_wp2_with (go_at_call 44; refine (C0.out _ GG).mono ?_; rintro e w' ⟨rfl, hg⟩; obtain ⟨x1, rfl⟩ := hg.later; clear hg)
      exact bodyPost_ret (v := .tuple #[.int .i64 (-1), .bool false]) (by simp [results, Try.results48, go_sem]) rfl ⟨rfl, GG⟩
  · rw [hmR_graph hok]
    have hb : (rightF N E != 0) = true := by simpa using hok
    clear h hr hS hok hrl hsl
    generalize rightF N E = r0 at *
    go_enter Try.func48, Try.ntmps48
    go_wp2_with (go_at_call 44; refine (C0.out _ GG).mono ?_; rintro e w' ⟨rfl, hg⟩; obtain ⟨x1, rfl⟩ := hg.later; clear hg)
    exact bodyPost_ret (v := .tuple #[.int .i64 (-2), .bool false]) (by simp [results, Try.results48, go_sem]) rfl ⟨rfl, GG⟩
end Go.Proofs.Ytgplpgldhoelcaa

namespace Go.Proofs.Ytgplpgldhoelcaa
open Go Go.RowKit
section
variable {P : Program} {w0 : World} {ops : Array Oper} {Q : Act → Env → Prop} {a : Act} {G : Env} {o : Oper} {rest : List Oper}
theorem dep_exec {a' : Act} {t0 : Tmp} {v : Value} (h5 : ∀ cs b, o.op ≠ .select cs b) (ht0 : t0 < a.tmps.size) (hv : a'.tmps[t0]? = some v) (h : ∀ t ∈ o.looksAt ops, t = t0 ∨ a'.tmps[t]? = a.tmps[t]?) : execOp a'.eval o = execOp (a.put (some t0) v).eval o := by
  refine execOp_congr o h5 fun x hx => ?_
  cases x with
  | tmp t =>
    have ht : t ∈ o.looksAt ops := List.mem_append_left _ (List.mem_filterMap.2 ⟨.tmp t, by simpa using hx, rfl⟩)
    have h' : a'.tmps[t]? = (a.put (some t0) v).tmps[t]? := by
      by_cases e : t = t0
      · subst e
        rw [hv]
        simp [Act.put, ht0]
      · rw [(h t ht).resolve_left e]
        simp [Act.put, Array.getElem?_setIfInBounds_ne (Ne.symm e)]
    simp only [Act.eval, Array.getD_eq_getD_getElem?, h']
  | _ => rfl
theorem gLex_depV {t0 : Tmp} {p0 : Pr} (hw : Region.wanted o (yielded ops a.tmps) = true) (hp : depB ops o G t0 = true) (h0 : G t0 = some p0) (ht0 : t0 < a.tmps.size) (v : Value)
    (hr : ∀ (x : Later w0) (u : Value), p0 u x.now → runsTo P (fun u' w' => Grows x.now w' ∧ u' = v) ((execOp (a.put (some t0) u).eval o).run P x.now))
    (h : gLex P ops w0 Q rest (a.put o.dst v) G) : gLex P ops w0 Q (o :: rest) a G := by
  obtain ⟨h1, h2, h3, h4, h5⟩ := dep_spec hp
  refine ⟨.inl v, ⟨h1, h2, .inl ⟨hw, trivial, trivial, fun w hw a' ha' => ?_⟩⟩, ?_⟩
  · have hv := ha' t0 h4
    unfold relAt at hv
    rw [h0] at hv
    obtain ⟨u, hv, hpv⟩ := hv
    rw [dep_exec h5 ht0 hv (fun t ht => (h3 t ht).imp id (fun e => by
      have h6 := ha' t ht
      unfold relAt at h6
      rw [e] at h6
      exact h6))]
    exact hr ⟨w, hw⟩ u hpv
  · have : putG G o.dst (.inl v) = G := by cases o.dst <;> rfl
    rw [this]
    exact h
def AtA (Q : Exit → Act → World → Prop) (a : Act) (G : Env) (w' : World) : Prop := ∀ a', Conc G a a' w' → Q .normal a' w'
theorem AtA.pop {Q : Exit → Act → World → Prop} {w' : World} {t : Tmp} {p : Pr} (hG : G t = none) (ht : t < a.tmps.size) (h : ∀ v, p v w' → AtA Q (a.put (some t) v) G w') : AtA Q a (G.upd t p) w' := fun a' hc => by
  obtain ⟨v, hv⟩ := conc_upd hc ht
  rcases hv with ⟨hp, hc2⟩ | hne
  · exact h v hp a' hc2
  · exact absurd hG hne
theorem AtA.base {Q : Exit → Act → World → Prop} {w' : World} (h : Q .normal a w') : AtA Q a Env.no w' := fun a' hc => by rw [conc_no hc]; exact h
end
end Go.Proofs.Ytgplpgldhoelcaa

namespace Go.Proofs.Ytgplpgldhoelcaa
open Go Go.RowKit
attribute [local go_sem] Oper.semAt_some
def HcP (N : Nat) (r : List Nat) (S : List SI) : Pr := fun u w => ∃ B d A c, u = .agg #[.slice B N d, .slice A S.length c] ∧ Rd w B 1 N (nv r) ∧ Rd w A 6 S.length (sis S) ∧ S.length ≤ c
theorem HcP.lasts (N : Nat) (r : List Nat) (S : List SI) : Lasts (HcP N r S) := fun _ _ _ hg ⟨B, d, A, c, e, h1, h2, h3⟩ => ⟨B, d, A, c, e, h1.grows hg, h2.grows hg, h3⟩
end Go.Proofs.Ytgplpgldhoelcaa

namespace Go.Proofs.Ytgplpgldhoelcaa
open Go Go.RowKit
attribute [local go_sem] Oper.semAt_some
set_option maxHeartbeats 1000000 in
theorem r21Full (N : Nat) (A : Option Addr) (c : Nat) (E : List Edg) (B : Option Addr) (d : Nat) (r : List Nat) (A2 : Option Addr) (c2 : Nat) (S : List Sc) (w : World) (h : Rd w A 3 E.length (esCells E)) (hok : rightF N E = 0) (hr : Rd w B 1 N (nv r)) (hS : Rd w A2 6 S.length (hss S)) (hsl : S.length ≤ 1000000) (hcap : S.length ≤ c2) (hmade : madeSB N E (nvI r) (S.map Sc.si) = true) (hfull : FullL N E r S) :
    Calls Try.prog 21 #[.agg #[.int .i64 (N : Int), .slice A E.length c], .agg #[.slice B N d, .slice A2 S.length c2]] w fun e w' => e = .returned (.bool true) ∧ Grows w w' := by
  have hN : N ≤ 4096 := by have := (right_in hok).2.1; omega
  have hEl : E.length ≤ 1000000 := by have := (right_in hok).2.2.1; omega
  have CM := hide (fun (W : World) (g : Grows w W) => by
    have := r21Made N A E.length c E B N d (nvI r) A2 S.length c2 (S.map Sc.si) W (h.grows g) hEl (by rw [← nvI_vals]; exact hr.grows g) (by omega) (by rw [← sis_of]; exact hS.grows g) hsl hcap
    rw [madeSB_hmR hok hmade] at this
    exact this)
  have CF := hide (fun (W : World) (g : Grows w W) => r20Full N A c E B d r A2 c2 S W (h.grows g) hok (hr.grows g) (hS.grows g) hsl hfull)
  clear h hok hr hS hmade hfull
  generalize S.length = n2 at *
  generalize E.length = n at *
  go_enter Try.func21, Try.ntmps21
  go_wp2_with (first
    | (go_at_call 48; refine (CM.out _ GG).mono ?_; rintro e w' ⟨rfl, hg⟩; obtain ⟨x1, rfl⟩ := hg.later; clear hg)
    | (go_at_call 49; refine (CF.out _ GG).mono ?_; rintro e w' ⟨rfl, hg⟩; obtain ⟨x2, rfl⟩ := hg.later; clear hg))
  go_ret
  exact ⟨rfl, GG⟩
end Go.Proofs.Ytgplpgldhoelcaa

namespace Go.Proofs.Ytgplpgldhoelcaa
open Go Go.RowKit
set_option maxRecDepth 20000 in
set_option maxHeartbeats 4000000 in
theorem r5With (N : Int) (A : Option Addr) (n c : Nat) (E : List Edg) (e x : Int) (w : World) (h : Rd w A 3 n (esCells E)) (hn : n ≤ 1000000) :
    Calls Try.prog 45 #[.agg #[.int .i64 N, .slice A n c], .int .i64 e, .int .u64 x] w (GiveGF w (withF N E e x) fun N' A' n' c' w' => withF N E e x = 0 → N' = N ∧ n' = E.length ∧ Own w' w.heap.size 93 3 A' n' c' (esCells (setW E e.toNat x))) := by
  have hl := h.elen
  have C1 := fun W (g : Grows w W) => r5Right N A n c E W (h.grows g) hn
  have C3 := hide (fun W => calls_same (r5weight x W))
  have HV : Hid (withF N E e x = if rightF N E = 0 then (if edgeB n e then (if wtB x then 0 else 2) else 8) else 1) := by unfold withF chF; rw [hl]; rfl
  rw [HV.out]
  have HH := hide hl
  have HR := hide h
  clear h HV hl
  by_cases hr : rightF N E = 0
  · rw [if_pos hr]
    rw [hr] at C1
    have H1 := hide C1
    clear C1 hr
    cases he : edgeB n e with
    | false =>
      have hek : ¬ (0 ≤ e ∧ e < n) := of_decide_eq_false he
      clear he
      rw [if_neg (by simp)]
      by_cases he0 : e < 0
      ·
        go_enter Try.func45, Try.ntmps45
        go_wp2_with (first | (go_at_call 44; refine (H1.out _ GG).mono ?_; rintro e w' ⟨rfl, hg⟩; (first | obtain ⟨x, rfl⟩ := Grows.later2 hg | obtain ⟨x, rfl⟩ := Grows.later hg); clear hg))
        refine bodyPost_ret (v := .tuple #[.agg #[.int .i64 0, .slice none 0 0], .int .i64 8]) (by simp (maxDischargeDepth := 6) [results, Try.results45, go_sem, *]) rfl ⟨_, _, _, _, rfl, fun h => by simp at h, GG⟩
      · have he1 : (n : Int) ≤ e := by omega
        go_enter Try.func45, Try.ntmps45
        go_wp2_with (first | (go_at_call 44; refine (H1.out _ GG).mono ?_; rintro e w' ⟨rfl, hg⟩; (first | obtain ⟨x, rfl⟩ := Grows.later2 hg | obtain ⟨x, rfl⟩ := Grows.later hg); clear hg))
        refine bodyPost_ret (v := .tuple #[.agg #[.int .i64 0, .slice none 0 0], .int .i64 8]) (by simp (maxDischargeDepth := 6) [results, Try.results45, go_sem, *]) rfl ⟨_, _, _, _, rfl, fun h => by simp at h, GG⟩
    | true =>
      rw [if_pos rfl]
      have hek : 0 ≤ e ∧ e < n := of_decide_eq_true he
      clear he
      have he0 : ¬ e < 0 := by omega
      have he1 : ¬ (n : Int) ≤ e := by omega
      cases hx : wtB x with
      | false =>
        rw [hx] at C3
        clear hx
        rw [if_neg (by simp)]
        go_enter Try.func45, Try.ntmps45
        go_wp2_with (first | (go_at_call 44; refine (H1.out _ GG).mono ?_; rintro e w' ⟨rfl, hg⟩; (first | obtain ⟨x, rfl⟩ := Grows.later2 hg | obtain ⟨x, rfl⟩ := Grows.later hg); clear hg) | (go_at_call 84; refine (C3.out _).mono ?_; rintro e w' ⟨rfl, hg⟩; (first | obtain ⟨x, rfl⟩ := Grows.later2 hg | obtain ⟨x, rfl⟩ := Grows.later hg); clear hg))
        refine bodyPost_ret (v := .tuple #[.agg #[.int .i64 0, .slice none 0 0], .int .i64 2]) (by simp (maxDischargeDepth := 6) [results, Try.results45, go_sem, *]) rfl ⟨_, _, _, _, rfl, fun h => by simp at h, GG⟩
      | true =>
        rw [hx] at C3
        clear hx
        rw [if_pos rfl]
        obtain ⟨k, rfl⟩ := Int.eq_ofNat_of_zero_le hek.1
        have hk : k < n := by omega
        clear hek he0 he1
        obtain ⟨b, off, rfl, _⟩ := HR.out.2 (by omega) (by omega)
        rw [Int.toNat_natCast]
        go_enter Try.func45, Try.ntmps45
        go_upto_region 7 with (first
          | (go_at_call 44; refine (H1.out _ GG).mono ?_; rintro e w' ⟨rfl, hg⟩; obtain ⟨x1, rfl⟩ := hg.later; clear hg)
          | (go_at_call 84; refine (C3.out _).mono ?_; rintro e w' ⟨rfl, hg⟩; obtain ⟨x3, rfl⟩ := hg.later; clear hg))
        have hgx := (show Grows w x3.now from GG).size
        have hgy := (x1.grows.trans x3.grows).size
        simp only [World.size_alloc] at hgy
        go_cut [8] (fun s8 wx => ∃ y : Later x3.now, wx = y.now ∧ ∃ g8 g c3, s8 = .pointer (some ⟨g8, 0, none⟩) ∧ x3.now.heap.size ≤ g8 ∧ g8 ≠ g ∧ x3.now.heap.size ≤ g ∧ Mine y.now ⟨g8, 0, none⟩ (.int .i64 N) ∧ Mine y.now ⟨g8, 1, none⟩ (.slice (some ⟨g, 0, none⟩) n c3) ∧ Own y.now x3.now.heap.size 93 3 (some ⟨g, 0, none⟩) n c3 (esCells E))
        case first =>
          go_region_law (refine step_appNew elemEdge rfl _ _ rfl _ rfl ⟨b, off, none⟩ n c _ rfl (HR.out.grows GG) (es_one E) (by omega) (by omega) ?_; intro A3 c3 y3 hown3; obtain ⟨g, rfl, hgB, hlt, _⟩ := hown3.atS (by omega); simp only [World.size_drew, World.size_alloc] at hgB; have HO3 := hide hown3; clear hown3)
          all_goals go_wp2_with fail
          all_goals go_meet
          all_goals (case rel =>
            first
              | exact ⟨⟨y3.now.alloc _, GG⟩, rfl, _, g, c3, rfl, by have := y3.size; simp at this ⊢; omega, by omega, by omega, inferInstance, inferInstance, (HO3.out.new _).base (by first | (simp; done) | (simp; omega))⟩
              | (refine ⟨⟨(y3.now.setCell _ _).setCell _ _, GG⟩, rfl, _, g, c3, rfl, by omega, by omega, by omega, ⟨by simp [go_sem], by simp [go_sem]⟩, ⟨by simp [go_sem], by simp [go_sem]⟩, ?_⟩
                 exact ((HO3.out.low (by first | (simp; done) | (simp; omega)) _).low (by first | (simp; done) | (simp; omega)) _).base (by first | (simp; done) | (simp; omega))))
        case rest =>
          obtain ⟨y, rfl, g8, g, c3, rfl, hg8, hne, hgw, m1, m2, hown⟩ := hcut
          have hgw' := hgw
          have hgw : w.heap.size ≤ g := by omega
          obtain ⟨g', e', _, hlt, hM⟩ := hown.atS (by omega)
          obtain rfl : g = g' := by simpa using e'
          have c5 := hM _ _ (es_at2 (k := k) (by rw [HH.out]; exact hk))
          have HO := hide hown
          clear hown hM e'
          go_wp2
          refine bodyPost_ret (v := .tuple #[.agg #[.int .i64 N, .slice (some ⟨g, 0, none⟩) n c3], .int .i64 0]) (by simp (maxDischargeDepth := 6) [results, Try.results45, go_sem, *]) rfl ⟨_, _, _, _, rfl, fun _ => ⟨rfl, HH.out.symm, ?_⟩, GG⟩
          obtain ⟨y2, e2, ho2⟩ := HO.out.putS (w0 := x3.now) (j := k * 3 + 2) GG (by omega) (.int .u64 x)
          rw [esCells_setW] at ho2
          rw [e2]
          exact ((ho2.low (by show w.heap.size + 1 < _; omega) _).low (by show w.heap.size + 1 < _; omega) _).base hgx
  · rw [if_neg hr]
    have hr2 : (rightF N E == 0) = false := beq_eq_false_iff_ne.2 hr
    have H1 := hide C1
    clear C1 hr
    go_enter Try.func45, Try.ntmps45
    go_wp2_with (first | (go_at_call 44; refine (H1.out _ GG).mono ?_; rintro e w' ⟨rfl, hg⟩; (first | obtain ⟨x, rfl⟩ := Grows.later2 hg | obtain ⟨x, rfl⟩ := Grows.later hg); clear hg))
    refine bodyPost_ret (v := .tuple #[.agg #[.int .i64 0, .slice none 0 0], .int .i64 1]) (by simp (maxDischargeDepth := 6) [results, Try.results45, go_sem, *]) rfl ⟨_, _, _, _, rfl, fun h => by simp at h, GG⟩
end Go.Proofs.Ytgplpgldhoelcaa

