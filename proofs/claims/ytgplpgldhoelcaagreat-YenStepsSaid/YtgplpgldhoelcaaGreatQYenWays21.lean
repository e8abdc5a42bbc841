/- Contract: highroadref30.Sorted. -/
import Derived.Test.YtgplpgldhoelcaaGreatQYenWays00
import Derived.Test.YtgplpgldhoelcaaGreatQYenWays01
import Derived.Test.YtgplpgldhoelcaaGreatQYenWays20
namespace Go.Proofs.YtgplpgldhoelcaaGreat
open Go Go.RowKit
attribute [local go_sem] Oper.semAt_some
theorem leN_iff {E : List Edg} {x : List Nat} {l : List (List Nat)} {j : Nat} (hj : j < l.length) (hle : j ≤ leN E x l) : cmpR E (gL l j) x ≤ 0 ↔ j < leN E x l := by
  constructor
  · intro h
    apply Classical.byContradiction
    intro hc
    have e : j = leN E x l := by omega
    subst e
    obtain ⟨p, h1, h2⟩ := leN_at hj
    have : gL l (leN E x l) = p := by rw [gL_at hj]; exact (List.getElem?_eq_some_iff.1 h1).2
    rw [this] at h
    omega
  · intro h
    obtain ⟨p, h1, h2⟩ := leN_take h
    have : gL l j = p := by rw [gL_at hj]; exact (List.getElem?_eq_some_iff.1 h1).2
    rw [this]
    exact h2
section
variable {w : World} {e : TypeId} {ops : Array Oper} {rest : List Oper} {o : Oper} {a : Act} {Q : Exit → Act → World → Prop}
theorem wp_appRows {t : TypeId} {size : Nat} (E : Elem t e size) (hgd : o.guard = none) (s x : Operand) (ho : o.op = .call { callee := .builtin .append, args := #[s, x], argTypes := #[t, t] })
    (w0 : World) (hw0 : Grows w0 w) (n c : Nat) (A : Option Addr) (xs : List Value) (hs : a.eval s = .slice A n c) (hown : Own w w0.heap.size e size A n c xs) (B : Option Addr) (m d : Nat) (ys : List Value) (hx : a.eval x = .slice B m d)
    (hr : Rd w B size m ys) (hnil : B = none → m = 0 ∧ d = 0) (h1 : ∀ u ∈ ys, u.oneCell' = true) (hnm : n + m ≤ 1000000000000)
    (h : ∀ A' c'' (y : Later w0), Own y.now w0.heap.size e size A' (n + m) c'' (xs ++ ys) → wpList Tryz.prog ops Q rest (a.put o.dst (.slice A' (n + m) c'')) y.now) :
    wpList Tryz.prog ops Q (o :: rest) a w := by
  cases hB : B with
  | none =>
    obtain ⟨i, z, bytes, hi, hz, hsz, hby, hzs, hb64⟩ := E.info
    obtain ⟨rfl, rfl⟩ := hnil hB
    subst hB
    have hy : ys = [] := List.eq_nil_of_length_eq_zero (by have := hr.1; omega)
    subst hy
    have hrun := run_append_owned_none (P := Tryz.prog) w w0.heap.size t o.type e i size E.under hi (.slice A n c) n xs hown
    refine Lib.wpList_append_run w hgd s x t t ho (.slice A n c) (.slice none 0 0) hs hx (.slice A n c) w hrun ?_
    obtain ⟨y, rfl⟩ := hw0.later
    exact h A c y (by rw [List.append_nil]; exact hown)
  | some ad =>
    subst hB
    exact wp_appAll E hgd s x ho w0 hw0 n c A xs hs hown ad m d ys hx hr h1 hnm h
end
theorem insS_sub {E : List Edg} {l : List (List Nat)} {x p : List Nat} (h : p ∈ insS E l x) : p ∈ l ∨ p = x := by
  unfold insS at h
  rcases List.mem_append.1 h with h | h
  · exact .inl (List.mem_of_mem_take h)
  · rcases List.mem_cons.1 h with h | h
    · exact .inr h
    · exact .inl (List.mem_of_mem_drop h)
theorem srtL_sub {E : List Edg} {l : List (List Nat)} : ∀ k, k ≤ l.length → ∀ p ∈ srtL E (l.take k), p ∈ l
  | 0, _, p, h => by cases h
  | k + 1, hk, p, h => by
    rw [List.take_succ_eq_append_getElem (by omega), srtL_snoc] at h
    rcases insS_sub h with h | h
    · exact srtL_sub k (by omega) p h
    · rw [h]; exact List.getElem_mem _
theorem rd_take2 {w : World} {g n : Nat} {xs : List Value} (h : Rd w (some ⟨g, 0, none⟩) 2 n xs) {k : Nat} (hk : k ≤ n) : Rd w (some ⟨g, 0, none⟩) 2 k (xs.take (k * 2)) := by
  have hl := h.1
  refine ⟨by rw [List.length_take]; omega, fun h1 h2 => ?_⟩
  obtain ⟨g', off', e', hc⟩ := h.2 (by omega) h2
  injection e' with e'
  injection e' with e1 e2 _
  subst e1 e2
  refine ⟨g, 0, rfl, fun j u hu => hc j u ?_⟩
  have hj := (List.getElem?_eq_some_iff.1 hu).1
  rw [List.length_take] at hj
  rw [List.getElem?_take, if_pos (by omega)] at hu
  exact hu
theorem rd_drop2 {w : World} {g n : Nat} {xs : List Value} (h : Rd w (some ⟨g, 0, none⟩) 2 n xs) {k : Nat} (hk : k ≤ n) : Rd w (some ⟨g, k * 2, none⟩) 2 (n - k) (xs.drop (k * 2)) := by
  have hl := h.1
  refine ⟨by rw [List.length_drop]; omega, fun h1 h2 => ?_⟩
  obtain ⟨g', off', e', hc⟩ := h.2 (by omega) h2
  injection e' with e'
  injection e' with e1 e2 _
  subst e1 e2
  refine ⟨g, k * 2, rfl, fun j u hu => ?_⟩
  rw [List.getElem?_drop] at hu
  have := hc (k * 2 + j) u hu
  simpa using this
theorem sort_step {y y6 : World} {B c8 c6 c2 kx : Nat} {A8 A6 A2 : Option Addr} {rs8 : List Rt} {E : List Edg} {W8 : List (List Nat)} {x : List Nat} (h8 : RtsAt y B A8 c8 rs8 (rtW E W8)) (hy : Grows y y6) (hk : kx ≤ rs8.length) (hx : Own y 0 3 1 A2 x.length c2 (nv x))
    (h6 : Own y6 B 53 2 A6 (rs8.length + 1) c6 ((rs8.flatMap rtC).take (kx * 2) ++ ([.slice A2 x.length c2, .int .u64 (wE E x : Int)] ++ (rs8.flatMap rtC).drop (kx * 2)))) :
    RtsAt y6 B A6 c6 (rs8.take kx ++ (A2, c2, x, wE E x) :: rs8.drop kx) (rtW E (W8.take kx ++ x :: W8.drop kx)) := by
  obtain ⟨e1, e2⟩ := rts_ins (Ar := A2) (cr := c2) (l := x) h8.eqs hk
  refine ⟨?_, fun r hr => ?_, e2⟩
  · rw [e1, List.append_assoc, show (rs8.take kx ++ (A2, c2, x, wE E x) :: rs8.drop kx).length = rs8.length + 1 by simp; omega]
    exact h6
  · rcases List.mem_append.1 hr with h | h
    · exact (h8.rows r (List.mem_of_mem_take h)).grows hy
    · rcases List.mem_cons.1 h with h | h
      · rw [h]; exact hx.grows hy
      · exact (h8.rows r (List.mem_of_mem_drop h)).grows hy
set_option maxRecDepth 20000 in
set_option maxHeartbeats 8000000 in
theorem r30Sorted (A : Option Addr) (c : Nat) (rs : List Rt) (E : List Edg) (W : List (List Nat)) (w : World) (h : RtsAt w 0 A c rs (rtW E W)) (hn : W.length ≤ 100000) (hlen : ∀ p ∈ W, p.length ≤ 1000000) :
    Calls Tryz.prog 27 #[.slice A rs.length c] w fun e w' => ∃ A' c' rs', e = .returned (.slice A' rs'.length c') ∧ RtsAt w' w.heap.size A' c' rs' (rtW E (srtL E W)) ∧ Grows w w' := by
  have hl : rs.length = W.length := by rw [h.len]; simp [rtW]
  rw [hl]
  have H := hide h
  have HLEN := hide hlen
  have HL := hide hl
  clear h hlen hl
  generalize hnW : W.length = nW at *
  have HNW := hide hnW
  clear hnW
  go_enter Tryz.func27, Tryz.ntmps27
  go_wp2_with fail
  go_loopw [3, 4] (fun out tk wr => ∃ (i : Nat) (A8 : Option Addr) (c8 : Nat) (rs8 : List Rt), i ≤ nW ∧ tk = .int .i64 (i : Int) ∧ out = .slice A8 i c8 ∧ ∃ y : Later w, wr = y.now ∧ Hid (rs8.length = i) ∧ Hid (RtsAt y.now w.heap.size A8 c8 rs8 (rtW E (srtL E (W.take i))))) (fun _ tk _ => nW - (Go.RowKit.intOf tk).toNat)
  case atStart => exact ⟨0, none, 0, [], by omega, by go_num, rfl, ⟨w, Grows.refl w⟩, rfl, hide rfl, hide (RtsAt.nil _ _)⟩
  case round =>
    obtain ⟨i, A8, c8, rs8, hi, rfl, rfl, y, rfl, HR8, HO8⟩ := hrel
    by_cases hlt : i < nW
    · have hWi : i < W.length := by have := HNW.out; omega
      obtain ⟨g0, A2, c2, e0, hr0, m1, m2, o2⟩ := H.out.way hWi
      subst e0
      obtain ⟨x, hx⟩ : ∃ x, x = gL W i := ⟨_, rfl⟩
      rw [← hx] at hr0 m1 m2 o2
      have hxl : x.length ≤ 1000000 := by rw [hx, gL_at hWi]; exact HLEN.out _ (List.getElem_mem hWi)
      have hws : (srtL E (W.take i)).length = i := srtL_len E W i (by omega)
      have HWM := hide (show ∀ j, j < i → (gL (srtL E (W.take i)) j).length ≤ 1000000 from fun j hj => by
        have hj2 : j < (srtL E (W.take i)).length := by omega
        rw [gL_at hj2]
        exact HLEN.out _ (srtL_sub i (by omega) _ (List.getElem_mem hj2)))
      obtain ⟨W8, hW8⟩ : ∃ W8, W8 = srtL E (W.take i) := ⟨_, rfl⟩
      rw [← hW8] at HO8 hws HWM
      have HWS := hide hws
      have HXX := hide (And.intro hx hW8)
      clear hx hW8 hws
      generalize hn2 : x.length = nx at *
      generalize hwx : wE E x = fx at *
      have HN2 := hide hn2
      have HWX := hide hwx
      clear hn2 hwx
      have hcap := HO8.out.own.capN
      have hform : (A8 = none ∧ i = 0 ∧ c8 = 0) ∨ ∃ g8, A8 = some ⟨g8, 0, none⟩ := by
        rcases HO8.out.own.2 with ⟨e8, h0⟩ | ⟨g8, _, _, e8, _⟩
        · injection e8 with e1 e2 e3
          exact .inl ⟨e1, by have := HR8.out; omega, e3⟩
        · injection e8 with e1
          exact .inr ⟨g8, e1⟩
      rw [HR8.out] at hcap
      obtain ⟨kx, hkx⟩ : ∃ kx, kx = leN E x W8 := ⟨_, rfl⟩
      have hki : kx ≤ i := by have h1 := leN_le E x W8; have h2 := HWS.out; omega
      have HKX := hide hkx
      have HSTEP := hide (fun (A6 : Option Addr) (c6 : Nat) (y6 : World) (hy : Grows y.now y6) (kx' : Nat) (hk : kx' ≤ rs8.length) (h6 : Own y6 w.heap.size 53 2 A6 (i + 1) c6 ((rs8.flatMap rtC).take (kx' * 2) ++ ([.slice A2 nx c2, .int .u64 (fx : Int)] ++ (rs8.flatMap rtC).drop (kx' * 2)))) => show Hid (RtsAt y6 w.heap.size A6 c6 (rs8.take kx' ++ (A2, c2, x, wE E x) :: rs8.drop kx') (rtW E (W8.take kx' ++ x :: W8.drop kx'))) from
        hide (sort_step HO8.out hy hk (by rw [HN2.out]; exact o2.grows y.grows) (by rw [HN2.out, HWX.out, HR8.out]; exact h6)))
      have HSRT := hide (show srtL E (W.take (i + 1)) = W8.take kx ++ x :: W8.drop kx from by
        rw [List.take_succ_eq_append_getElem hWi, srtL_snoc, ← HXX.out.2, ← gL_at hWi, ← HXX.out.1, hkx]
        rfl)
      clear hkx
      rcases hform with ⟨e1, e2, e3⟩ | ⟨g8, e8⟩
      · subst e1 e2 e3
        obtain rfl : kx = 0 := by omega
        go_wp2_with fail
        go_loopw [5] (fun kk wr => kk = .int .i64 0 ∧ ∃ z : Later y.now, wr = z.now) (fun _ _ => 0)
        case atStart => exact ⟨by go_num, ⟨y.now, Grows.refl _⟩, rfl⟩
        case round =>
          obtain ⟨rfl, z, rfl⟩ := hrel
          have HT1 := hide (show ∀ u ∈ (rs8.flatMap rtC).take (0 * 2), u.oneCell' = true from fun u hu => rts_one rs8 u (List.mem_of_mem_take hu))
          have HT2 := hide (show ∀ u ∈ (rs8.flatMap rtC).drop (0 * 2), u.oneCell' = true from fun u hu => rts_one rs8 u (List.mem_of_mem_drop hu))
          have HTK := hide (show ∀ W1, Grows y.now W1 → Rd W1 none 2 0 ((rs8.flatMap rtC).take (0 * 2)) from fun W1 _ => ⟨by simp, fun h0 _ => absurd h0 (by omega)⟩)
          have HDR := hide (show ∀ W1, Grows y.now W1 → Rd W1 none 2 0 ((rs8.flatMap rtC).drop (0 * 2)) from fun W1 _ => ⟨by rw [List.length_drop, rt_flat_len, HR8.out], fun h0 _ => absurd h0 (by omega)⟩)
          go_wp2_with fail
          ((first | refine wp_region_gen (by kernel_rfl) (by kernel_rfl) ?_); (repeat' (first | (refine gLex_val0 rfl (by kernel_rfl) (fun K hK => ?_); (go_simp; (try (simp only [↓IntWalk.iteOmega]; try go_simp)); (try simp (disch := omega) only [IntWalk.i64_in]); (try simp (disch := omega) only [IntWalk.u64_in]); first | (refine hK _ ?_; clear hK K) | (apply Exists.intro; refine ⟨fun x => ?_, hK _ ?_⟩; (first | fail); clear hK K))) | (refine gLex_undef rfl rfl rfl (by kernel_rfl) (fun K hK => ?_); go_simp; refine hK _ ?_; clear hK K) | (refine gLex_ask rfl rfl rfl ?_; first | (apply gAsk_yes; kernel_rfl; intro K hK; (go_simp; (try (simp only [↓IntWalk.iteOmega]; try go_simp)); (try simp (disch := omega) only [IntWalk.i64_in]); (try simp (disch := omega) only [IntWalk.u64_in]); first | (refine hK _ ?_; clear hK K) | (apply Exists.intro; refine ⟨fun x => ?_, hK _ ?_⟩; (first | fail); clear hK K))) | ((first | apply gAsk_no1 | apply gAsk_no2); kernel_rfl; intro K hK; simp [go_sem]; refine hK _ ?_; clear hK K) | (apply gAsk_part; kernel_rfl; all_goals (intro h K hK; (try simp only [Bool.not_true] at h); (try simp only [Bool.not_false] at h); (try simp only [decide_eq_true_eq] at h); (try simp only [decide_eq_false_iff_not] at h); first | (exfalso; first | contradiction | omega) | (go_simp; (try (simp only [↓IntWalk.iteOmega]; try go_simp)); (try simp (disch := omega) only [IntWalk.i64_in]); (try simp (disch := omega) only [IntWalk.u64_in]); first | (refine hK _ ?_; clear hK K) | (apply Exists.intro; refine ⟨fun x => ?_, hK _ ?_⟩; (first | fail); clear hK K))))))); all_goals ((apply gLex_end); intro z1))
          go_upto_region 9 with (at_builtin; refine wp_appRows elemRoute rfl _ _ rfl z1.now GG 0 0 _ [] rfl (Own.empty _ _ _ _ (Nat.le_refl _)) none 0 0 ((rs8.flatMap rtC).take (0 * 2)) rfl (HTK.out _ GG) (fun _ => ⟨rfl, rfl⟩) HT1.out (by omega) ?_; intro A4 c4 y4 hown4; rw [Nat.zero_add] at hown4; have HO4 := hide hown4; clear hown4)
          go_upto_region 10 with (at_builtin; refine wp_app2M elemRoute rfl _ _ rfl z1.now GG 0 c4 A4 _ rfl (HO4.out.new _) _ _ _ _ rfl inferInstance inferInstance rfl rfl (by omega) ?_; intro A5 c5 y5 hown5 hgr5; have HO5 := hide hown5; clear hown5 hgr5)
          go_wp2_with (at_builtin; refine wp_appRows elemRoute rfl _ _ rfl z1.now GG (0 + 1) c5 A5 _ rfl HO5.out none (0) (0) ((rs8.flatMap rtC).drop (0 * 2)) rfl (HDR.out _ GG) (fun _ => ⟨rfl, rfl⟩) HT2.out (by omega) ?_; intro A6 c6 y6 hown6; have HO6 := hide hown6; clear hown6)
          have hg9 : Grows y.now y6.now := Grows.trans (z.grows.trans z1.grows) y6.grows
          have hs9 := HSTEP.out A6 c6 y6.now hg9 0 (by have := HR8.out; omega) (by
            have h6 := HO6.out.base (B' := w.heap.size) (Nat.le_trans y.size (Nat.le_trans z.size z1.size))
            rw [show 0 + 1 + (0) = 0 + 1 by omega] at h6
            simpa using h6)
          have HS9 := hide hs9
          clear hs9
          have hgw9 : Grows w y6.now := y.grows.trans hg9
          obtain ⟨y9, hy9⟩ := hgw9.later
          rw [hy9] at HS9 ⊢
          clear hy9
          go_roundw
          case measure => simp [Go.RowKit.intOf]; omega
          case rel => exact ⟨0 + 1, A6, c6, rs8.take 0 ++ (A2, c2, x, wE E x) :: rs8.drop 0, by omega, by go_num, by first | rfl | (congr 1; omega), y9, rfl, hide (by have := HR8.out; simp only [List.length_append, List.length_cons, List.length_take, List.length_drop]; omega), hide (by rw [HSRT.out]; exact HS9.out.out)⟩
      subst e8
      go_wp2_with fail
      go_loopw [5] (fun kk wr => ∃ (j : Nat), j ≤ kx ∧ kk = .int .i64 (j : Int) ∧ ∃ z : Later y.now, wr = z.now) (fun kk _ => i - (Go.RowKit.intOf kk).toNat)
      case atStart => exact ⟨0, by omega, by go_num, ⟨y.now, Grows.refl _⟩, rfl⟩
      case round =>
        obtain ⟨j, hj, rfl, z, rfl⟩ := hrel
        by_cases hgo : j < kx
        · have hend : j < i := by omega
          obtain ⟨g9, A1, c1, e8, hr8, k1, k2, o1⟩ := (HO8.out.grows z.grows).way (i := j) (by have := HWS.out; omega)
          injection e8 with e8
          injection e8 with e8
          subst e8
          have hiff := (leN_iff (E := E) (x := x) (l := W8) (j := j) (by have := HWS.out; omega) (by have := HKX.out; omega)).2 (by have := HKX.out; omega)
          have CC := hide (fun (X : World) (g : Grows z.now X) => r8CmpG A1 (gL W8 j).length c1 (wE E (gL W8 j)) (gL W8 j) A2 nx c2 fx x X (o1.rd.grows g) (HWM.out j hend) (o2.rd.grows ((y.grows.trans z.grows).trans g)) hxl)
          rw [cmpV_is rfl HWX.out.symm] at CC
          unfold rVal at CC
          generalize cmpR E (gL W8 j) x = cv at *
          generalize (gL W8 j).length = n1 at *
          generalize wE E (gL W8 j) = f1 at *
          clear hr8 o1
          go_wp2_with fail
          ((first | refine wp_region_gen (by kernel_rfl) (by kernel_rfl) ?_); (repeat' (first | (refine gLex_val0 rfl (by kernel_rfl) (fun K hK => ?_); (go_simp; (try (simp only [↓IntWalk.iteOmega]; try go_simp)); (try simp (disch := omega) only [IntWalk.i64_in]); (try simp (disch := omega) only [IntWalk.u64_in]); first | (refine hK _ ?_; clear hK K) | (apply Exists.intro; refine ⟨fun x => ?_, hK _ ?_⟩; (first | (go_at_call 24; exact CC.out _ GG)); clear hK K))) | (refine gLex_undef rfl rfl rfl (by kernel_rfl) (fun K hK => ?_); go_simp; refine hK _ ?_; clear hK K) | (refine gLex_ask rfl rfl rfl ?_; first | (apply gAsk_yes; kernel_rfl; intro K hK; (go_simp; (try (simp only [↓IntWalk.iteOmega]; try go_simp)); (try simp (disch := omega) only [IntWalk.i64_in]); (try simp (disch := omega) only [IntWalk.u64_in]); first | (refine hK _ ?_; clear hK K) | (apply Exists.intro; refine ⟨fun x => ?_, hK _ ?_⟩; (first | (go_at_call 24; exact CC.out _ GG)); clear hK K))) | ((first | apply gAsk_no1 | apply gAsk_no2); kernel_rfl; intro K hK; simp [go_sem]; refine hK _ ?_; clear hK K) | (apply gAsk_part; kernel_rfl; all_goals (intro h K hK; (try simp only [Bool.not_true] at h); (try simp only [Bool.not_false] at h); (try simp only [decide_eq_true_eq] at h); (try simp only [decide_eq_false_iff_not] at h); first | (exfalso; first | contradiction | omega) | (go_simp; (try (simp only [↓IntWalk.iteOmega]; try go_simp)); (try simp (disch := omega) only [IntWalk.i64_in]); (try simp (disch := omega) only [IntWalk.u64_in]); first | (refine hK _ ?_; clear hK K) | (apply Exists.intro; refine ⟨fun x => ?_, hK _ ?_⟩; (first | (go_at_call 24; exact CC.out _ GG)); clear hK K))))))); all_goals ((apply gLex_end); intro z1))
          go_wp2_with fail
          go_roundw
          case measure => simp [Go.RowKit.intOf]; omega
          case rel => exact ⟨j + 1, by omega, by go_num, ⟨_, GG⟩, rfl⟩
        · obtain rfl : kx = j := by omega
          by_cases hend : kx < i
          · skip
            have HT1 := hide (show ∀ u ∈ (rs8.flatMap rtC).take (kx * 2), u.oneCell' = true from fun u hu => rts_one rs8 u (List.mem_of_mem_take hu))
            have HT2 := hide (show ∀ u ∈ (rs8.flatMap rtC).drop (kx * 2), u.oneCell' = true from fun u hu => rts_one rs8 u (List.mem_of_mem_drop hu))
            have HTK := hide (show ∀ W1, Grows y.now W1 → Rd W1 (some ⟨g8, 0, none⟩) 2 kx ((rs8.flatMap rtC).take (kx * 2)) from fun W1 hg => rd_take2 (HO8.out.own.rd.grows hg) (by have := HR8.out; omega))
            have HDR := hide (show ∀ W1, Grows y.now W1 → Rd W1 (some ⟨g8, kx * 2, none⟩) 2 (i - kx) ((rs8.flatMap rtC).drop (kx * 2)) from fun W1 hg => by have h1 := rd_drop2 (HO8.out.own.rd.grows hg) (k := kx) (by have := HR8.out; omega); rw [HR8.out] at h1; exact h1)
            have hne : ¬ c8 = kx := by omega
            obtain ⟨g9, A1, c1, e8, hr8, k1, k2, o1⟩ := (HO8.out.grows z.grows).way (i := kx) (by have := HWS.out; omega)
            injection e8 with e8
            injection e8 with e8
            subst e8
            have hiff := leN_iff (E := E) (x := x) (l := W8) (j := kx) (by have := HWS.out; omega) (by have := HKX.out; omega)
            have CC := hide (fun (X : World) (g : Grows z.now X) => r8CmpG A1 (gL W8 kx).length c1 (wE E (gL W8 kx)) (gL W8 kx) A2 nx c2 fx x X (o1.rd.grows g) (HWM.out kx hend) (o2.rd.grows ((y.grows.trans z.grows).trans g)) hxl)
            rw [cmpV_is rfl HWX.out.symm] at CC
            unfold rVal at CC
            generalize cmpR E (gL W8 kx) x = cv at *
            generalize (gL W8 kx).length = n1 at *
            generalize wE E (gL W8 kx) = f1 at *
            have hcv : ¬ cv ≤ 0 := fun h => by have := hiff.1 h; have := HKX.out; omega
            clear hiff hr8 o1
            go_wp2_with fail
            ((first | refine wp_region_gen (by kernel_rfl) (by kernel_rfl) ?_); (repeat' (first | (refine gLex_val0 rfl (by kernel_rfl) (fun K hK => ?_); (go_simp; (try (simp only [↓IntWalk.iteOmega]; try go_simp)); (try simp (disch := omega) only [IntWalk.i64_in]); (try simp (disch := omega) only [IntWalk.u64_in]); first | (refine hK _ ?_; clear hK K) | (apply Exists.intro; refine ⟨fun x => ?_, hK _ ?_⟩; (first | (go_at_call 24; exact CC.out _ GG)); clear hK K))) | (refine gLex_undef rfl rfl rfl (by kernel_rfl) (fun K hK => ?_); go_simp; refine hK _ ?_; clear hK K) | (refine gLex_ask rfl rfl rfl ?_; first | (apply gAsk_yes; kernel_rfl; intro K hK; (go_simp; (try (simp only [↓IntWalk.iteOmega]; try go_simp)); (try simp (disch := omega) only [IntWalk.i64_in]); (try simp (disch := omega) only [IntWalk.u64_in]); first | (refine hK _ ?_; clear hK K) | (apply Exists.intro; refine ⟨fun x => ?_, hK _ ?_⟩; (first | (go_at_call 24; exact CC.out _ GG)); clear hK K))) | ((first | apply gAsk_no1 | apply gAsk_no2); kernel_rfl; intro K hK; simp [go_sem]; refine hK _ ?_; clear hK K) | (apply gAsk_part; kernel_rfl; all_goals (intro h K hK; (try simp only [Bool.not_true] at h); (try simp only [Bool.not_false] at h); (try simp only [decide_eq_true_eq] at h); (try simp only [decide_eq_false_iff_not] at h); first | (exfalso; first | contradiction | omega) | (go_simp; (try (simp only [↓IntWalk.iteOmega]; try go_simp)); (try simp (disch := omega) only [IntWalk.i64_in]); (try simp (disch := omega) only [IntWalk.u64_in]); first | (refine hK _ ?_; clear hK K) | (apply Exists.intro; refine ⟨fun x => ?_, hK _ ?_⟩; (first | (go_at_call 24; exact CC.out _ GG)); clear hK K))))))); all_goals ((apply gLex_end); intro z1))
            go_upto_region 9 with (at_builtin; refine wp_appRows elemRoute rfl _ _ rfl z1.now GG 0 0 _ [] rfl (Own.empty _ _ _ _ (Nat.le_refl _)) (some ⟨g8, 0, none⟩) kx c8 ((rs8.flatMap rtC).take (kx * 2)) rfl (HTK.out _ GG) (fun h => by cases h) HT1.out (by omega) ?_; intro A4 c4 y4 hown4; rw [Nat.zero_add] at hown4; have HO4 := hide hown4; clear hown4)
            go_upto_region 10 with (at_builtin; refine wp_app2M elemRoute rfl _ _ rfl z1.now GG kx c4 A4 _ rfl (HO4.out.new _) _ _ _ _ rfl inferInstance inferInstance rfl rfl (by omega) ?_; intro A5 c5 y5 hown5 hgr5; have HO5 := hide hown5; clear hown5 hgr5)
            go_wp2_with (at_builtin; refine wp_appRows elemRoute rfl _ _ rfl z1.now GG (kx + 1) c5 A5 _ rfl HO5.out (some ⟨g8, kx * 2, none⟩) (i - kx) (c8 - kx) ((rs8.flatMap rtC).drop (kx * 2)) rfl (HDR.out _ GG) (fun h => by cases h) HT2.out (by omega) ?_; intro A6 c6 y6 hown6; have HO6 := hide hown6; clear hown6)
            have hg9 : Grows y.now y6.now := Grows.trans (z.grows.trans z1.grows) y6.grows
            have hs9 := HSTEP.out A6 c6 y6.now hg9 kx (by have := HR8.out; omega) (by
              have h6 := HO6.out.base (B' := w.heap.size) (Nat.le_trans y.size (Nat.le_trans z.size z1.size))
              rw [show kx + 1 + (i - kx) = i + 1 by omega] at h6
              simpa using h6)
            have HS9 := hide hs9
            clear hs9
            have hgw9 : Grows w y6.now := y.grows.trans hg9
            obtain ⟨y9, hy9⟩ := hgw9.later
            rw [hy9] at HS9 ⊢
            clear hy9
            go_roundw
            case measure => simp [Go.RowKit.intOf]; omega
            case rel => exact ⟨i + 1, A6, c6, rs8.take kx ++ (A2, c2, x, wE E x) :: rs8.drop kx, by omega, by go_num, by first | rfl | (congr 1; omega), y9, rfl, hide (by have := HR8.out; simp only [List.length_append, List.length_cons, List.length_take, List.length_drop]; omega), hide (by rw [HSRT.out]; exact HS9.out.out)⟩
          · by_cases hck : c8 = kx
            · skip
              have hck2 := hck.symm
              subst hck2
              clear hck
              have HT1 := hide (show ∀ u ∈ (rs8.flatMap rtC).take (kx * 2), u.oneCell' = true from fun u hu => rts_one rs8 u (List.mem_of_mem_take hu))
              have HT2 := hide (show ∀ u ∈ (rs8.flatMap rtC).drop (kx * 2), u.oneCell' = true from fun u hu => rts_one rs8 u (List.mem_of_mem_drop hu))
              have HTK := hide (show ∀ W1, Grows y.now W1 → Rd W1 (some ⟨g8, 0, none⟩) 2 kx ((rs8.flatMap rtC).take (kx * 2)) from fun W1 hg => rd_take2 (HO8.out.own.rd.grows hg) (by have := HR8.out; omega))
              have HDR := hide (show ∀ W1, Grows y.now W1 → Rd W1 (some ⟨g8, 0, none⟩) 2 0 ((rs8.flatMap rtC).drop (kx * 2)) from fun W1 _ => ⟨by rw [List.length_drop, rt_flat_len, HR8.out]; omega, fun h0 _ => absurd h0 (by omega)⟩)
              go_wp2_with fail
              ((first | refine wp_region_gen (by kernel_rfl) (by kernel_rfl) ?_); (repeat' (first | (refine gLex_val0 rfl (by kernel_rfl) (fun K hK => ?_); (go_simp; (try (simp only [↓IntWalk.iteOmega]; try go_simp)); (try simp (disch := omega) only [IntWalk.i64_in]); (try simp (disch := omega) only [IntWalk.u64_in]); first | (refine hK _ ?_; clear hK K) | (apply Exists.intro; refine ⟨fun x => ?_, hK _ ?_⟩; (first | fail); clear hK K))) | (refine gLex_undef rfl rfl rfl (by kernel_rfl) (fun K hK => ?_); go_simp; refine hK _ ?_; clear hK K) | (refine gLex_ask rfl rfl rfl ?_; first | (apply gAsk_yes; kernel_rfl; intro K hK; (go_simp; (try (simp only [↓IntWalk.iteOmega]; try go_simp)); (try simp (disch := omega) only [IntWalk.i64_in]); (try simp (disch := omega) only [IntWalk.u64_in]); first | (refine hK _ ?_; clear hK K) | (apply Exists.intro; refine ⟨fun x => ?_, hK _ ?_⟩; (first | fail); clear hK K))) | ((first | apply gAsk_no1 | apply gAsk_no2); kernel_rfl; intro K hK; simp [go_sem]; refine hK _ ?_; clear hK K) | (apply gAsk_part; kernel_rfl; all_goals (intro h K hK; (try simp only [Bool.not_true] at h); (try simp only [Bool.not_false] at h); (try simp only [decide_eq_true_eq] at h); (try simp only [decide_eq_false_iff_not] at h); first | (exfalso; first | contradiction | omega) | (go_simp; (try (simp only [↓IntWalk.iteOmega]; try go_simp)); (try simp (disch := omega) only [IntWalk.i64_in]); (try simp (disch := omega) only [IntWalk.u64_in]); first | (refine hK _ ?_; clear hK K) | (apply Exists.intro; refine ⟨fun x => ?_, hK _ ?_⟩; (first | fail); clear hK K))))))); all_goals ((apply gLex_end); intro z1))
              go_upto_region 9 with (at_builtin; refine wp_appRows elemRoute rfl _ _ rfl z1.now GG 0 0 _ [] rfl (Own.empty _ _ _ _ (Nat.le_refl _)) (some ⟨g8, 0, none⟩) kx kx ((rs8.flatMap rtC).take (kx * 2)) rfl (HTK.out _ GG) (fun h => by cases h) HT1.out (by omega) ?_; intro A4 c4 y4 hown4; rw [Nat.zero_add] at hown4; have HO4 := hide hown4; clear hown4)
              go_upto_region 10 with (at_builtin; refine wp_app2M elemRoute rfl _ _ rfl z1.now GG kx c4 A4 _ rfl (HO4.out.new _) _ _ _ _ rfl inferInstance inferInstance rfl rfl (by omega) ?_; intro A5 c5 y5 hown5 hgr5; have HO5 := hide hown5; clear hown5 hgr5)
              go_wp2_with (at_builtin; refine wp_appRows elemRoute rfl _ _ rfl z1.now GG (kx + 1) c5 A5 _ rfl HO5.out (some ⟨g8, 0, none⟩) (0) (0) ((rs8.flatMap rtC).drop (kx * 2)) rfl (HDR.out _ GG) (fun h => by cases h) HT2.out (by omega) ?_; intro A6 c6 y6 hown6; have HO6 := hide hown6; clear hown6)
              have hg9 : Grows y.now y6.now := Grows.trans (z.grows.trans z1.grows) y6.grows
              have hs9 := HSTEP.out A6 c6 y6.now hg9 kx (by have := HR8.out; omega) (by
                have h6 := HO6.out.base (B' := w.heap.size) (Nat.le_trans y.size (Nat.le_trans z.size z1.size))
                rw [show kx + 1 + (0) = i + 1 by omega] at h6
                simpa using h6)
              have HS9 := hide hs9
              clear hs9
              have hgw9 : Grows w y6.now := y.grows.trans hg9
              obtain ⟨y9, hy9⟩ := hgw9.later
              rw [hy9] at HS9 ⊢
              clear hy9
              go_roundw
              case measure => simp [Go.RowKit.intOf]; omega
              case rel => exact ⟨i + 1, A6, c6, rs8.take kx ++ (A2, c2, x, wE E x) :: rs8.drop kx, by omega, by go_num, by first | rfl | (congr 1; omega), y9, rfl, hide (by have := HR8.out; simp only [List.length_append, List.length_cons, List.length_take, List.length_drop]; omega), hide (by rw [HSRT.out]; exact HS9.out.out)⟩
            · skip
              have HT1 := hide (show ∀ u ∈ (rs8.flatMap rtC).take (kx * 2), u.oneCell' = true from fun u hu => rts_one rs8 u (List.mem_of_mem_take hu))
              have HT2 := hide (show ∀ u ∈ (rs8.flatMap rtC).drop (kx * 2), u.oneCell' = true from fun u hu => rts_one rs8 u (List.mem_of_mem_drop hu))
              have HTK := hide (show ∀ W1, Grows y.now W1 → Rd W1 (some ⟨g8, 0, none⟩) 2 kx ((rs8.flatMap rtC).take (kx * 2)) from fun W1 hg => rd_take2 (HO8.out.own.rd.grows hg) (by have := HR8.out; omega))
              have HDR := hide (show ∀ W1, Grows y.now W1 → Rd W1 (some ⟨g8, kx * 2, none⟩) 2 (i - kx) ((rs8.flatMap rtC).drop (kx * 2)) from fun W1 hg => by have h1 := rd_drop2 (HO8.out.own.rd.grows hg) (k := kx) (by have := HR8.out; omega); rw [HR8.out] at h1; exact h1)
              go_wp2_with fail
              ((first | refine wp_region_gen (by kernel_rfl) (by kernel_rfl) ?_); (repeat' (first | (refine gLex_val0 rfl (by kernel_rfl) (fun K hK => ?_); (go_simp; (try (simp only [↓IntWalk.iteOmega]; try go_simp)); (try simp (disch := omega) only [IntWalk.i64_in]); (try simp (disch := omega) only [IntWalk.u64_in]); first | (refine hK _ ?_; clear hK K) | (apply Exists.intro; refine ⟨fun x => ?_, hK _ ?_⟩; (first | fail); clear hK K))) | (refine gLex_undef rfl rfl rfl (by kernel_rfl) (fun K hK => ?_); go_simp; refine hK _ ?_; clear hK K) | (refine gLex_ask rfl rfl rfl ?_; first | (apply gAsk_yes; kernel_rfl; intro K hK; (go_simp; (try (simp only [↓IntWalk.iteOmega]; try go_simp)); (try simp (disch := omega) only [IntWalk.i64_in]); (try simp (disch := omega) only [IntWalk.u64_in]); first | (refine hK _ ?_; clear hK K) | (apply Exists.intro; refine ⟨fun x => ?_, hK _ ?_⟩; (first | fail); clear hK K))) | ((first | apply gAsk_no1 | apply gAsk_no2); kernel_rfl; intro K hK; simp [go_sem]; refine hK _ ?_; clear hK K) | (apply gAsk_part; kernel_rfl; all_goals (intro h K hK; (try simp only [Bool.not_true] at h); (try simp only [Bool.not_false] at h); (try simp only [decide_eq_true_eq] at h); (try simp only [decide_eq_false_iff_not] at h); first | (exfalso; first | contradiction | omega) | (go_simp; (try (simp only [↓IntWalk.iteOmega]; try go_simp)); (try simp (disch := omega) only [IntWalk.i64_in]); (try simp (disch := omega) only [IntWalk.u64_in]); first | (refine hK _ ?_; clear hK K) | (apply Exists.intro; refine ⟨fun x => ?_, hK _ ?_⟩; (first | fail); clear hK K))))))); all_goals ((apply gLex_end); intro z1))
              go_upto_region 9 with (at_builtin; refine wp_appRows elemRoute rfl _ _ rfl z1.now GG 0 0 _ [] rfl (Own.empty _ _ _ _ (Nat.le_refl _)) (some ⟨g8, 0, none⟩) kx c8 ((rs8.flatMap rtC).take (kx * 2)) rfl (HTK.out _ GG) (fun h => by cases h) HT1.out (by omega) ?_; intro A4 c4 y4 hown4; rw [Nat.zero_add] at hown4; have HO4 := hide hown4; clear hown4)
              go_upto_region 10 with (at_builtin; refine wp_app2M elemRoute rfl _ _ rfl z1.now GG kx c4 A4 _ rfl (HO4.out.new _) _ _ _ _ rfl inferInstance inferInstance rfl rfl (by omega) ?_; intro A5 c5 y5 hown5 hgr5; have HO5 := hide hown5; clear hown5 hgr5)
              go_wp2_with (at_builtin; refine wp_appRows elemRoute rfl _ _ rfl z1.now GG (kx + 1) c5 A5 _ rfl HO5.out (some ⟨g8, kx * 2, none⟩) (i - kx) (c8 - kx) ((rs8.flatMap rtC).drop (kx * 2)) rfl (HDR.out _ GG) (fun h => by cases h) HT2.out (by omega) ?_; intro A6 c6 y6 hown6; have HO6 := hide hown6; clear hown6)
              have hg9 : Grows y.now y6.now := Grows.trans (z.grows.trans z1.grows) y6.grows
              have hs9 := HSTEP.out A6 c6 y6.now hg9 kx (by have := HR8.out; omega) (by
                have h6 := HO6.out.base (B' := w.heap.size) (Nat.le_trans y.size (Nat.le_trans z.size z1.size))
                rw [show kx + 1 + (i - kx) = i + 1 by omega] at h6
                simpa using h6)
              have HS9 := hide hs9
              clear hs9
              have hgw9 : Grows w y6.now := y.grows.trans hg9
              obtain ⟨y9, hy9⟩ := hgw9.later
              rw [hy9] at HS9 ⊢
              clear hy9
              go_roundw
              case measure => simp [Go.RowKit.intOf]; omega
              case rel => exact ⟨i + 1, A6, c6, rs8.take kx ++ (A2, c2, x, wE E x) :: rs8.drop kx, by omega, by go_num, by first | rfl | (congr 1; omega), y9, rfl, hide (by have := HR8.out; simp only [List.length_append, List.length_cons, List.length_take, List.length_drop]; omega), hide (by rw [HSRT.out]; exact HS9.out.out)⟩
    · go_wp2_with fail
      go_ret
      exact ⟨A8, c8, rs8, by rw [HR8.out]; rfl, by have h1 := HO8.out; rw [List.take_of_length_le (show W.length ≤ i by have := HNW.out; omega)] at h1; exact h1, GG⟩
end Go.Proofs.YtgplpgldhoelcaaGreat

namespace Go.Proofs.YtgplpgldhoelcaaGreat
open Go
section
variable {P : Program}
theorem ready_mem {md : Region.Mode} {ops : Array Oper} {listed : Array Bool} {i : Nat} : i ∈ Region.ready md ops listed ↔ i < ops.size ∧ listed.getD i true = false ∧ ∃ o, ops[i]? = some o ∧ ∀ e ∈ o.after, Region.binds md e = true → listed.getD e.on false = true := by
  unfold Region.ready
  rw [List.mem_filter, List.mem_range]
  constructor
  · rintro ⟨h1, h2⟩
    rw [Bool.and_eq_true, Bool.not_eq_true'] at h2
    refine ⟨h1, h2.1, ops[i], by simp [h1], fun e he hb => ?_⟩
    have h3 := h2.2
    simp only [Array.getElem?_eq_getElem h1, Option.map_some, Option.getD_some, Array.all_eq_true'] at h3
    have := h3 e he
    rw [hb] at this
    simpa using this
  · rintro ⟨h1, h2, o, h3, h4⟩
    refine ⟨h1, ?_⟩
    rw [h2, h3]
    simp only [Bool.not_false, Bool.true_and, Option.map_some, Option.getD_some, Array.all_eq_true']
    intro e he
    cases hb : Region.binds md e
    · rfl
    · simpa using h4 e he hb
def backB (l : List Oper) : Bool := (List.range l.length).all fun i => match l[i]? with | some o => o.after.all fun e => !Region.binds .any e || decide (e.on < i) | none => true
theorem backB_spec {l : List Oper} (h : backB l = true) {i : Nat} {o : Oper} (ho : l[i]? = some o) {e : Edge} (he : e ∈ o.after) (hb : Region.binds .any e = true) : e.on < i := by
  unfold backB at h
  rw [List.all_eq_true] at h
  have hi : i < l.length := (List.getElem?_eq_some_iff.1 ho).1
  have := h i (by simpa using hi)
  rw [ho] at this
  simp only [Array.all_eq_true'] at this
  have := this e he
  rw [hb] at this
  simpa using this
theorem all_listed {l : List Oper} (hB : backB l = true) {listed : Array Bool} (hs : listed.size = l.length) (h : Region.ready .any l.toArray listed = []) : ∀ n j, j < n → j < l.length → listed.getD j true = true := by
  intro n
  induction n with
  | zero => intro j hj; omega
  | succ n ih =>
    intro j hj hl
    by_cases hjn : j < n
    · exact ih j hjn hl
    · cases hd : listed.getD j true with
      | true => rfl
      | false =>
        exfalso
        have : j ∈ Region.ready .any l.toArray listed := ready_mem.2 ⟨by simpa using hl, hd, l[j], by simp [hl], fun e he hb => by
          have h1 := backB_spec hB (i := j) (o := l[j]) (by simp [hl]) he hb
          have h2 := ih e.on (by omega) (by omega)
          have h3 : e.on < listed.size := by omega
          simp only [Array.getD, h3, dite_true] at h2 ⊢
          exact h2⟩
        rw [h] at this
        cases this
variable {l : List Oper} {Q : Exit → Act → World → Prop}
theorem set_getD (listed : Array Bool) (i : Nat) (hi : i < listed.size) : (fun j => (listed.setIfInBounds i true).getD j true) = fun j => if j = i then true else listed.getD j true := by
  funext j
  by_cases h : j = i
  · subst h; simp [Array.getD, hi]
  · rw [if_neg h]
    simp only [Array.getD, Array.size_setIfInBounds]
    by_cases hj : j < listed.size
    · simp [hj, Ne.symm h]
    · simp [hj]
theorem wpAny_inv (hB : backB l = true) (I : (Nat → Bool) → Act → World → Prop)
    (hs : ∀ D a w, I D a w → ∀ i o, l[i]? = some o → D i = false → (∀ e ∈ o.after, Region.binds .any e = true → D e.on = true) → ∀ K : Act → World → Prop, (∀ a' w', I (fun j => if j = i then true else D j) a' w' → K a' w') →
      if Region.wanted o (yielded l.toArray a.tmps) = true then Oper.wp P o a w K Q else K (a.put o.dst undef) w)
    (he : ∀ D a w, I D a w → (∀ j, j < l.length → D j = true) → Q .normal a w) :
    ∀ (fuel : Nat) (listed : Array Bool) (a : Act) (w : World), listed.size = l.length → listed.toList.count false ≤ fuel → I (fun j => listed.getD j true) a w → wpAny P .any l.toArray Q fuel listed a w
  | 0, listed, a, w, hl, hc, hI => by
    have hall : ∀ j, j < l.length → listed.getD j true = true := fun j hj => by
      have h0 : listed.toList.count false = 0 := by omega
      rw [List.count_eq_zero] at h0
      have h1 : j < listed.size := by omega
      cases hd : listed.getD j true with
      | true => rfl
      | false =>
        exfalso
        simp only [Array.getD, h1, dite_true] at hd
        exact h0 (by rw [← hd]; simp)
    refine ⟨?_, he _ a w hI hall⟩
    rw [List.eq_nil_iff_forall_not_mem]
    intro i hi
    obtain ⟨h1, h2, _⟩ := ready_mem.1 hi
    rw [hall i (by simpa using h1)] at h2
    cases h2
  | fuel + 1, listed, a, w, hl, hc, hI => by
    refine ⟨fun hn => he _ a w hI fun j hj => all_listed hB hl hn (j + 1) j (by omega) hj, fun i hi => ?_⟩
    obtain ⟨h1, h2, o, h3, h4⟩ := ready_mem.1 hi
    have hil : i < listed.size := by rw [hl]; simpa using h1
    have hst := hs _ a w hI i o (by simpa using h3) h2 (fun e he hb => by
      have := h4 e he hb
      by_cases hj : e.on < listed.size
      · simp only [Array.getD, hj, dite_true] at this ⊢; exact this
      · simp [Array.getD, hj]) (wpAny P .any l.toArray Q fuel (listed.setIfInBounds i true)) (fun a' w' hI' => by
      refine wpAny_inv hB I hs he fuel _ a' w' (by simpa using hl) ?_ (by rw [set_getD listed i hil]; exact hI')
      have hd : listed[i] = false := by have h9 := h2; simp only [Array.getD, hil, dite_true] at h9; exact h9
      have : (listed.setIfInBounds i true).toList = listed.toList.set i true := by simp
      rw [this, List.count_set (by simpa using hil)]
      have e1 : listed.toList[i]'(by simpa using hil) = false := by simpa using hd
      rw [e1]
      have : 0 < listed.toList.count false := List.count_pos_iff.2 (by rw [← e1]; exact List.getElem_mem _)
      simp
      simp at hc this
      omega)
    unfold wpOp
    rw [h3]
    simp only
    split
    · rename_i hw
      rw [if_pos hw] at hst
      exact .inl hst
    · rename_i hw
      rw [if_neg hw] at hst
      exact hst
theorem wp_region_inv {id : Nat} {a : Act} {w : World} (hm : P.follows .mixedOrders = true) (hB : backB l = true) (I : (Nat → Bool) → Act → World → Prop) (h0 : I (fun j => decide (l.length ≤ j)) a w.drew)
    (hs : ∀ D a w, I D a w → ∀ i o, l[i]? = some o → D i = false → (∀ e ∈ o.after, Region.binds .any e = true → D e.on = true) → ∀ K : Act → World → Prop, (∀ a' w', I (fun j => if j = i then true else D j) a' w' → K a' w') →
      if Region.wanted o (yielded l.toArray a.tmps) = true then Oper.wp P o a w K Q else K (a.put o.dst undef) w)
    (he : ∀ D a w, I D a w → (∀ j, j < l.length → D j = true) → Q .normal a w) : (Code.region id l.toArray true).wp P Q a w := by
  refine wp_region_any hm ?_
  refine wpAny_inv hB I hs he _ _ a _ (by simp) (by simp) ?_
  have : (fun j => (Array.replicate l.toArray.size false).getD j true) = fun j => decide (l.length ≤ j) := by
    funext j
    by_cases hj : j < l.length
    · simp [Array.getD, hj]
    · simp [Array.getD, hj]; omega
  rw [this]
  exact h0
def dstOf (l : List Oper) (j : Nat) : Option Tmp := (l[j]?).bind (·.dst)
def injB (l : List Oper) : Bool := (List.range l.length).all fun i => (List.range l.length).all fun j => decide (i = j) || decide (dstOf l i = none) || decide (dstOf l i ≠ dstOf l j)
theorem injB_spec (h : injB l = true) {i j : Nat} {t : Tmp} (hi : dstOf l i = some t) (hj : dstOf l j = some t) : i = j := by
  have lt : ∀ {k : Nat}, dstOf l k = some t → k < l.length := fun {k} hk => by
    rcases Nat.lt_or_ge k l.length with h | h
    · exact h
    · rw [dstOf, List.getElem?_eq_none h] at hk; cases hk
  unfold injB at h
  rw [List.all_eq_true] at h
  have h1 := h i (by simpa using lt hi)
  rw [List.all_eq_true] at h1
  have h2 := h1 j (by simpa using lt hj)
  simp only [Bool.or_eq_true, decide_eq_true_eq] at h2
  rcases h2 with (h2 | h2) | h2
  · exact h2
  · rw [hi] at h2; cases h2
  · rw [hi, hj] at h2; exact absurd rfl h2
structure TabI (l : List Oper) (a0 : Act) (D : Nat → Bool) (g : Nat → Value) (a : Act) : Prop where
  d : a.defers = a0.defers
  n : a.tmps.size = a0.tmps.size
  out : ∀ t, (∀ j, dstOf l j ≠ some t) → a.eval (.tmp t) = a0.eval (.tmp t)
  at_ : ∀ j t, dstOf l j = some t → D j = true → a.eval (.tmp t) = g j
theorem put_eval (a : Act) (t s : Tmp) (v : Value) (ht : t < a.tmps.size) : (a.put (some t) v).eval (.tmp s) = if s = t then v else a.eval (.tmp s) := by
  show (a.tmps.setIfInBounds t v).getD s undef = if s = t then v else a.tmps.getD s undef
  by_cases h : s = t
  · subst h
    simp [Array.getD, ht]
  · rw [if_neg h]
    simp only [Array.getD, Array.size_setIfInBounds]
    by_cases hs : s < a.tmps.size
    · simp [hs, Ne.symm h]
    · simp [hs]
def updG (g : Nat → Value) (i : Nat) (v : Value) : Nat → Value := fun j => if j = i then v else g j
theorem TabI.put {a0 : Act} {D : Nat → Bool} {g : Nat → Value} {a : Act} (hJ : injB l = true) (h : TabI l a0 D g a) {i : Nat} {o : Oper} (ho : l[i]? = some o) (hsz : ∀ t, o.dst = some t → t < a0.tmps.size) (v : Value) :
    TabI l a0 (fun j => if j = i then true else D j) (updG g i v) (a.put o.dst v) := by
  have hd : dstOf l i = o.dst := by simp [dstOf, ho]
  cases hdst : o.dst with
  | none =>
    refine ⟨h.d, h.n, h.out, fun j t hj hD => ?_⟩
    have hji : j ≠ i := fun e => by rw [e, hd, hdst] at hj; cases hj
    simp only [updG, if_neg hji] at hD ⊢
    exact h.at_ j t hj hD
  | some s =>
    have hs : s < a.tmps.size := by rw [h.n]; exact hsz s hdst
    refine ⟨h.d, by simpa [Act.put] using h.n, fun t ht => ?_, fun j t hj hD => ?_⟩
    · rw [put_eval _ _ _ _ hs, if_neg (fun e => by subst e; exact ht i (by rw [hd, hdst]))]
      exact h.out t ht
    · rw [put_eval _ _ _ _ hs]
      by_cases hji : j = i
      · subst hji
        rw [hd, hdst] at hj
        injection hj with hj
        rw [if_pos hj.symm]
        simp [updG]
      · simp only [updG, if_neg hji] at hD ⊢
        rw [if_neg (fun e => by subst e; exact hji (injB_spec hJ hj (by rw [hd, hdst])))]
        exact h.at_ j t hj hD
def putAll (l : List Oper) (g : Nat → Value) (a0 : Act) : Nat → Act
  | 0 => a0
  | k + 1 => (putAll l g a0 k).put (dstOf l k) (g k)
theorem putAll_size (l : List Oper) (g : Nat → Value) (a0 : Act) : ∀ k, (putAll l g a0 k).tmps.size = a0.tmps.size
  | 0 => rfl
  | k + 1 => by
    have ih := putAll_size l g a0 k
    simp only [putAll]
    cases dstOf l k with
    | none => exact ih
    | some t => simpa [Act.put] using ih
theorem putAll_defers (l : List Oper) (g : Nat → Value) (a0 : Act) : ∀ k, (putAll l g a0 k).defers = a0.defers
  | 0 => rfl
  | k + 1 => by
    have ih := putAll_defers l g a0 k
    simp only [putAll]
    cases dstOf l k with
    | none => exact ih
    | some t => exact ih
theorem putAll_eval (hJ : injB l = true) (g : Nat → Value) (a0 : Act) (hsz : ∀ j t, dstOf l j = some t → t < a0.tmps.size) (t : Tmp) : ∀ k, (∀ j, j < k → dstOf l j = some t → (putAll l g a0 k).eval (.tmp t) = g j) ∧ ((∀ j, j < k → dstOf l j ≠ some t) → (putAll l g a0 k).eval (.tmp t) = a0.eval (.tmp t))
  | 0 => ⟨fun j hj => absurd hj (by omega), fun _ => rfl⟩
  | k + 1 => by
    obtain ⟨ih1, ih2⟩ := putAll_eval hJ g a0 hsz t k
    simp only [putAll]
    cases hk : dstOf l k with
    | none =>
      refine ⟨fun j hj hd => ?_, fun h => ih2 fun j hj => h j (by omega)⟩
      by_cases e : j = k
      · subst e; rw [hk] at hd; cases hd
      · exact ih1 j (by omega) hd
    | some s =>
      have hs : s < (putAll l g a0 k).tmps.size := by rw [putAll_size]; exact hsz k s hk
      refine ⟨fun j hj hd => ?_, fun h => ?_⟩
      · rw [put_eval _ _ _ _ hs]
        by_cases e : j = k
        · subst e
          rw [hk] at hd
          injection hd with hd
          rw [if_pos hd.symm]
        · rw [if_neg (fun e2 => by subst e2; exact e (injB_spec hJ hd hk))]
          exact ih1 j (by omega) hd
      · rw [put_eval _ _ _ _ hs, if_neg (fun e => by subst e; exact h k (by omega) hk)]
        exact ih2 fun j hj => h j (by omega)
theorem TabI.all {a0 : Act} {D : Nat → Bool} {g : Nat → Value} {a : Act} (hJ : injB l = true) (h : TabI l a0 D g a) (hD : ∀ j, j < l.length → D j = true) (hsz : ∀ j t, dstOf l j = some t → t < a0.tmps.size) : a = putAll l g a0 l.length := by
  have key : ∀ t : Nat, a.eval (.tmp t) = (putAll l g a0 l.length).eval (.tmp t) := fun t => by
    obtain ⟨h1, h2⟩ := putAll_eval hJ g a0 hsz t l.length
    by_cases hj : ∃ j, j < l.length ∧ dstOf l j = some t
    · obtain ⟨j, hj, hd⟩ := hj
      rw [h1 j hj hd]
      exact h.at_ j t hd (hD j hj)
    · have hn : ∀ j, dstOf l j ≠ some t := fun j hd => hj ⟨j, (by
        rcases Nat.lt_or_ge j l.length with h | h
        · exact h
        · rw [dstOf, List.getElem?_eq_none h] at hd; cases hd), hd⟩
      rw [h2 fun j _ => hn j]
      exact h.out t hn
  have e1 : a.tmps = (putAll l g a0 l.length).tmps := by
    refine Array.ext (by rw [h.n, putAll_size]) fun t h1 h2 => ?_
    have := key t
    simp only [Act.eval, Array.getD, h1, h2, dite_true] at this
    exact this
  have e2 : a.defers = (putAll l g a0 l.length).defers := by rw [h.d, putAll_defers]
  cases a
  simp only at e1 e2
  subst e1 e2
  rfl
def waitB (l : List Oper) (i j : Nat) : Bool := match l[i]? with | some o => o.after.any fun e => decide (e.on = j) && Region.binds .any e | none => false
theorem waitB_spec {i j : Nat} {o : Oper} (ho : l[i]? = some o) (h : waitB l i j = true) : ∃ e ∈ o.after, e.on = j ∧ Region.binds .any e = true := by
  unfold waitB at h
  rw [ho] at h
  simp only [Array.any_eq_true'] at h
  obtain ⟨e, he, h⟩ := h
  rw [Bool.and_eq_true, decide_eq_true_eq] at h
  exact ⟨e, he, h.1, h.2⟩
end
end Go.Proofs.YtgplpgldhoelcaaGreat

namespace Go.Proofs.YtgplpgldhoelcaaGreat
open Go Go.RowKit
section
variable {P : Program} {Q : Exit → Act → World → Prop} {l : List Oper}
end
theorem ev_nfK {a : Act} {t : Tmp} {v : Value} (h : a.eval (.tmp t) = v) : a.tmps[t]?.getD undef = v := by
  rw [← h]
  simp [Act.eval]
theorem notDstK {l : List Oper} {t : Tmp} (h : (l.all fun o => decide (o.dst ≠ some t)) = true) : ∀ j, dstOf l j ≠ some t := fun j hj => by
  unfold dstOf at hj
  cases ho : l[j]? with
  | none => rw [ho] at hj; cases hj
  | some o =>
    rw [ho] at hj
    rw [List.all_eq_true] at h
    exact of_decide_eq_true (h o (List.mem_of_getElem? ho)) hj
section
variable {w : World} {i1 i2 : Nat} {p1 p2 : Addr} {v1 v2 : Value} {D : Nat → Bool}
end
end Go.Proofs.YtgplpgldhoelcaaGreat

namespace Go.Proofs.YtgplpgldhoelcaaGreat
open Go Go.RowKit
structure TabL (l : List Oper) (a0 : Act) (D : Nat → Bool) (g : Nat → Value) (a : Act) : Prop where
  d : a.defers = a0.defers
  n : a.tmps.size = a0.tmps.size
  out : ∀ t, (∀ j, dstOf l j = some t → D j = false) → a.eval (.tmp t) = a0.eval (.tmp t)
  at_ : ∀ j t, dstOf l j = some t → D j = true → a.eval (.tmp t) = g j
section
variable {P : Program} {Q : Exit → Act → World → Prop} {l : List Oper}
theorem TabL.put {a0 : Act} {D : Nat → Bool} {g g' : Nat → Value} {a : Act} (hJ : injB l = true) (h : TabL l a0 D g a) {i : Nat} {o : Oper} (ho : l[i]? = some o) (hsz : ∀ t, o.dst = some t → t < a0.tmps.size) (v : Value) (hg : ∀ j t, dstOf l j = some t → D j = true → g' j = g j) (hv : o.dst = none ∨ v = g' i) (hDi : D i = false) :
    TabL l a0 (fun j => if j = i then true else D j) g' (a.put o.dst v) := by
  have hd : dstOf l i = o.dst := by simp [dstOf, ho]
  cases hdst : o.dst with
  | none =>
    refine ⟨h.d, h.n, fun t ht => h.out t fun j hj => ?_, fun j t hj hD => ?_⟩
    · have := ht j hj
      by_cases e : j = i
      · rw [e]; exact hDi
      · simpa [e] using this
    · have hji : j ≠ i := fun e => by rw [e, hd, hdst] at hj; cases hj
      simp only [if_neg hji] at hD
      rw [hg j t hj hD]
      exact h.at_ j t hj hD
  | some s =>
    have hs : s < a.tmps.size := by rw [h.n]; exact hsz s hdst
    have hvi : v = g' i := by
      rcases hv with hv | hv
      · rw [hdst] at hv; cases hv
      · exact hv
    refine ⟨h.d, by simpa [Act.put] using h.n, fun t ht => ?_, fun j t hj hD => ?_⟩
    · rw [put_eval _ _ _ _ hs, if_neg (fun e => by
        subst e
        have := ht i (by rw [hd, hdst])
        simp at this)]
      refine h.out t fun j hj => ?_
      have := ht j hj
      by_cases e : j = i
      · rw [e]; exact hDi
      · simpa [e] using this
    · rw [put_eval _ _ _ _ hs]
      by_cases hji : j = i
      · subst hji
        rw [hd, hdst] at hj
        injection hj with hj
        rw [if_pos hj.symm]
        exact hvi
      · simp only [if_neg hji] at hD
        rw [if_neg (fun e => by subst e; exact hji (injB_spec hJ hj (by rw [hd, hdst])))]
        rw [hg j t hj hD]
        exact h.at_ j t hj hD
theorem TabL.all {a0 : Act} {D : Nat → Bool} {g : Nat → Value} {a : Act} (hJ : injB l = true) (h : TabL l a0 D g a) (hD : ∀ j, j < l.length → D j = true) (hsz : ∀ j t, dstOf l j = some t → t < a0.tmps.size) : a = putAll l g a0 l.length := by
  have key : ∀ t : Nat, a.eval (.tmp t) = (putAll l g a0 l.length).eval (.tmp t) := fun t => by
    obtain ⟨h1, h2⟩ := putAll_eval hJ g a0 hsz t l.length
    by_cases hj : ∃ j, j < l.length ∧ dstOf l j = some t
    · obtain ⟨j, hj, hd⟩ := hj
      rw [h1 j hj hd]
      exact h.at_ j t hd (hD j hj)
    · have hn : ∀ j, dstOf l j ≠ some t := fun j hd => hj ⟨j, (by
        rcases Nat.lt_or_ge j l.length with h | h
        · exact h
        · rw [dstOf, List.getElem?_eq_none h] at hd; cases hd), hd⟩
      rw [h2 fun j _ => hn j]
      exact h.out t (fun j hj => absurd hj (hn j))
  have e1 : a.tmps = (putAll l g a0 l.length).tmps := by
    refine Array.ext (by rw [h.n, putAll_size]) fun t h1 h2 => ?_
    have := key t
    simp only [Act.eval, Array.getD, h1, h2, dite_true] at this
    exact this
  have e2 : a.defers = (putAll l g a0 l.length).defers := by rw [h.d, putAll_defers]
  cases a
  simp only at e1 e2
  subst e1 e2
  rfl
def freeB (l : List Oper) : Bool := l.all fun o => o.guard.isNone
theorem wp_region_late {id : Nat} {a0 : Act} {w : World} (hm : P.follows .mixedOrders = true) (hB : backB l = true) (hJ : injB l = true) (hsz : ((List.range l.length).all fun j => match dstOf l j with | some t => decide (t < a0.tmps.size) | none => true) = true) (hL : freeB l = true)
    {Γ : Type} (V : Γ → Nat → Value) (M : Γ → (Nat → Bool) → World → Prop) (c0 : Γ) (h0 : M c0 (fun j => decide (l.length ≤ j)) w.drew)
    (hs : ∀ (c : Γ) (a : Act) (D : Nat → Bool), (∀ j t, dstOf l j = some t → D j = true → a.eval (.tmp t) = V c j) → (∀ t, (∀ j, dstOf l j = some t → D j = false) → a.eval (.tmp t) = a0.eval (.tmp t)) → ∀ i o, l[i]? = some o → (∀ i j, D i = true → waitB l i j = true → D j = true) → D i = false → (∀ j, waitB l i j = true → D j = true) → ∀ w1, M c D w1 → runsTo P (fun u w' => ∃ c', M c' (fun j => if j = i then true else D j) w' ∧ (∀ j, j < l.length → D j = true → V c' j = V c j) ∧ (o.dst = none ∨ u = V c' i)) ((execOp a.eval o).run P w1))
    (he : ∀ c w1, M c (fun _ => true) w1 → Q .normal (putAll l (V c) a0 l.length) w1) : (Code.region id l.toArray true).wp P Q a0 w := by
  have hsz' : ∀ j t, dstOf l j = some t → t < a0.tmps.size := fun j t hd => by
    have hj : j < l.length := by
      rcases Nat.lt_or_ge j l.length with h | h
      · exact h
      · rw [dstOf, List.getElem?_eq_none h] at hd; cases hd
    rw [List.all_eq_true] at hsz
    have := hsz j (by simpa using hj)
    rw [hd] at this
    simpa using this
  refine wp_region_inv hm hB (fun D a w => (∃ c, M c D w ∧ TabL l a0 D (V c) a) ∧ (∀ i j, D i = true → waitB l i j = true → D j = true) ∧ ∀ j, l.length ≤ j → D j = true) ⟨⟨c0, h0, ⟨rfl, rfl, fun _ _ => rfl, fun j t hd hD => ?_⟩⟩, fun i j hD hE => ?_, fun j hj => decide_eq_true hj⟩ ?_ ?_
  · exfalso
    rw [decide_eq_true_eq] at hD
    rw [dstOf, List.getElem?_eq_none hD] at hd
    cases hd
  · exfalso
    rw [decide_eq_true_eq] at hD
    unfold waitB at hE
    rw [List.getElem?_eq_none hD] at hE
    cases hE
  · rintro D a w ⟨⟨c, hM, ht⟩, hcl, hbig⟩ i o ho hD hpre K hK
    have hpre' : ∀ j, waitB l i j = true → D j = true := fun j hE => by
      obtain ⟨e, he, rfl, hb⟩ := waitB_spec ho hE
      exact hpre e he hb
    have hgd : o.guard = none := by
      unfold freeB at hL
      rw [List.all_eq_true] at hL
      simpa using hL o (List.mem_of_getElem? ho)
    rw [if_pos (by unfold Region.wanted; rw [hgd])]
    have step : ∀ u w', (∃ c', M c' (fun j => if j = i then true else D j) w' ∧ (∀ j, j < l.length → D j = true → V c' j = V c j) ∧ (o.dst = none ∨ u = V c' i)) → K (a.put o.dst u) w' := fun u w' ⟨c', hM', hsame, hu⟩ => by
      refine hK _ _ ⟨⟨c', hM', ht.put hJ ho (fun t hd => hsz' i t (by simp [dstOf, ho, hd])) u (fun j t hj hDj => hsame j ?_ hDj) hu hD⟩, fun i' j hDi hE => ?_, fun j hj => ?_⟩
      · rcases Nat.lt_or_ge j l.length with h | h
        · exact h
        · rw [dstOf, List.getElem?_eq_none h] at hj; cases hj
      · show (if j = i then true else D j) = true
        by_cases e : j = i
        · rw [if_pos e]
        · rw [if_neg e]
          by_cases e2 : i' = i
          · subst e2; exact hpre' j hE
          · have hDi' : (if i' = i then true else D i') = true := hDi
            rw [if_neg e2] at hDi'
            exact hcl i' j hDi' hE
      · show (if j = i then true else D j) = true
        split
        · rfl
        · exact hbig j hj
    have hrun := hs c a D ht.at_ ht.out i o ho hcl hD hpre' w hM
    unfold Oper.wp
    generalize (execOp a.eval o).run P w = res at hrun
    cases res with
    | halt x w' => simp only [runsTo] at hrun
    | ok x w' =>
      cases x <;> simp only [runsTo] at hrun <;> simp only [Oper.upon]
      case value u => exact step u _ hrun
      case skip => exact step _ _ hrun
      case enter f args =>
        refine hrun.mono fun e w'' ⟨u, he, h1⟩ => ?_
        subst he
        exact step u _ h1
  · rintro D a w ⟨⟨c, hM, ht⟩, _, hbig⟩ hD
    have e1 : D = fun _ => true := funext fun j => by
      rcases Nat.lt_or_ge j l.length with h | h
      · exact hD j h
      · exact hbig j h
    subst e1
    rw [ht.all hJ hD hsz']
    exact he c w hM
theorem notDstL {l : List Oper} {t : Tmp} {D : Nat → Bool} (h : (l.all fun o => decide (o.dst ≠ some t)) = true) : ∀ j, dstOf l j = some t → D j = false := fun j hj => absurd hj (notDstK h j)
theorem lateDst {l : List Oper} {t : Tmp} {D : Nat → Bool} {k : Nat} (hJ : injB l = true) (hk : dstOf l k = some t) (hD : D k = false) : ∀ j, dstOf l j = some t → D j = false := fun j hj => by rw [injB_spec hJ hj hk]; exact hD
end
theorem runsTo_monoY {P : Program} {Q Q' : Value → World → Prop} {r : Result Next} (h : runsTo P Q r) (hi : ∀ u w, Q u w → Q' u w) : runsTo P Q' r := by
  cases r with
  | halt x w' => simp only [runsTo] at h
  | ok x w' =>
    cases x <;> simp only [runsTo] at h ⊢
    case value u => exact hi _ _ h
    case skip => exact hi _ _ h
    case enter f args => exact h.mono fun e w'' ⟨u, he, h1⟩ => ⟨u, he, hi _ _ h1⟩
end Go.Proofs.YtgplpgldhoelcaaGreat

