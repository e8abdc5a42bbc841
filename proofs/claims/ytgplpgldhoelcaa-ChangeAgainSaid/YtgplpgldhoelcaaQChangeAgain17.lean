/- Contracts: the document's answer: how far it is by lesser nodes alone; is there a shortcut for each two that must have one? -/
import Derived.Test.YtgplpgldhoelcaaQChangeAgain15
import Derived.Test.YtgplpgldhoelcaaQChangeAgain16
import Derived.Test.YtgplpgldhoelcaaQChangeAgain12
import Derived.Deep.DeepCutAuto
namespace Go.Proofs.Ytgplpgldhoelcaa
open Go Go.RowKit
attribute [local go_sem] Oper.semAt_some
def nbK (r : List Nat) (u w k : Nat) : List Nat := (List.range k).filter fun v => decide (v ≠ u) && decide (v ≠ w) && decide (min (gn r u) (gn r w) ≤ gn r v)
theorem nbK_yes {r : List Nat} {u w k : Nat} (h : k ≠ u ∧ k ≠ w ∧ min (gn r u) (gn r w) ≤ gn r k) : nbK r u w (k + 1) = nbK r u w k ++ [k] := by
  unfold nbK
  rw [List.range_succ, List.filter_append, List.filter_cons_of_pos (by simp [h.1, h.2.1, h.2.2])]
  rfl
theorem nbK_no {r : List Nat} {u w k : Nat} (h : ¬ (k ≠ u ∧ k ≠ w ∧ min (gn r u) (gn r w) ≤ gn r k)) : nbK r u w (k + 1) = nbK r u w k := by
  unfold nbK
  rw [List.range_succ, List.filter_append, List.filter_cons_of_neg (by
    simp only [Bool.and_eq_true, decide_eq_true_eq]
    exact fun e => h ⟨e.1.1, e.1.2, e.2⟩)]
  simp
theorem nbK_len (r : List Nat) (u w k : Nat) : (nbK r u w k).length ≤ k := by
  have := List.length_filter_le (fun v => decide (v ≠ u) && decide (v ≠ w) && decide (min (gn r u) (gn r w) ≤ gn r v)) (List.range k)
  simpa [nbK] using this
def blF (N : Nat) (E : List Edg) (r : List Nat) (u w : Nat) : Nat := gn (refL (srchOf N E (noN (nvI (noBelow N r u w)))) u) w
theorem noN_ok {N u : Nat} {E : List Edg} {nn : List Int} (hr : rightF N E = 0) (hu : u < N) (hl : nn.length ≤ 1000000) : WalkOk N u E (noN nn) :=
  ⟨hr, hu, .inl rfl, by show 0 < _; omega, by show nn.length ≤ _; exact hl, by show ([] : List Int).length ≤ _; simp⟩
theorem r14AllN (N s : Nat) (A : Option Addr) (c : Nat) (E : List Edg) (An : Option Addr) (cn : Nat) (nn : List Int) (w : World) (h : Rd w A 3 E.length (esCells E)) (hr : rightF N E = 0) (hs : s < N) (hn : Rd w An 1 nn.length (nn.map (.int .i64))) (hl : nn.length ≤ 1000000) :
    Calls Try.prog 88 #[.agg #[.int .i64 (N : Int), .slice A E.length c], .int .i64 (s : Int), .agg #[.bool false, .slice An nn.length cn, .slice none 0 0, .slice none 0 0, .int .u64 0]] w fun e w' => ∃ gd, e = .returned (.slice (some ⟨gd, 0, none⟩) N N) ∧ Row1 w' gd 38 1 N N (wv (refL (srchOf N E (noN nn)) s)) ∧ Grows w w' := by
  have h0 : Rd w none 1 0 [] := ⟨by simp, fun h => absurd h (by simp)⟩
  have hw0 : Rd w none 1 0 (wv []) := ⟨by simp [wv], fun h => absurd h (by simp)⟩
  exact r14All N s A c E (noN nn) An none none cn 0 0 w h hn h0 hw0 (noN_ok hr hs hl) (fun i hi => (noO_w hr i hi).2)
theorem refL_len (N : Nat) (E : List Edg) (o : DOpt) (s : Nat) : (refL (srchOf N E o) s).length = N := by unfold refL; split <;> simp [cutL, rndK_len, dBeg, srchOf]
set_option maxRecDepth 20000 in
set_option maxHeartbeats 4000000 in
theorem r20Below (N : Nat) (A : Option Addr) (c : Nat) (E : List Edg) (B : Option Addr) (d : Nat) (r : List Nat) (u v : Nat) (w : World) (h : Rd w A 3 E.length (esCells E)) (hok : rightF N E = 0) (hr : Rd w B 1 N (nv r)) (hu : u < N) (hv : v < N) :
    Calls Try.prog 89 #[.agg #[.int .i64 (N : Int), .slice A E.length c], .slice B N d, .int .i64 (u : Int), .int .i64 (v : Int)] w fun e w' => e = .returned (.int .u64 (blF N E r u v : Int)) ∧ Grows w w' := by
  have hN : N ≤ 4096 := by have := (right_in hok).2.1; omega
  have hrl : r.length = N := by have := hr.len; simpa [nv] using this
  rw [nvI_vals] at hr
  obtain ⟨bR, offR, rfl, hcR⟩ := hr.intsH (by omega)
  have KR := hide (fun (x : Nat) (hx : x < N) => show Holds w ⟨bR, offR + x, none⟩ (.int .i64 (gn r x : Int)) by have := hcR x hx; rwa [nvI_gi _ _ (by rw [hrl]; exact hx)] at this)
  have ku := KR.out u hu
  have kv := KR.out v hv
  have CA := hide (fun (An : Option Addr) (cn : Nat) (nn : List Int) (W : World) (g : Grows w W) (hn : Rd W An 1 nn.length (nn.map (.int .i64))) (hl : nn.length ≤ 1000000) => r14AllN N u A c E An cn nn W (h.grows g) hok hu hn hl)
  have HBL : Hid (blF N E r u v = gn (refL (srchOf N E (noN (nvI (nbK r u v N)))) u) v) := rfl
  clear h hok hr hcR hrl
  go_enter Try.func89, Try.ntmps89
  go_wp2_with fail
  have hw1 : Grows w (w.alloc (.cells #[.int .i64 (N : Int), .slice A E.length c] 44)) := (Grows.refl _).new _
  have a4 : Arr (w.alloc (.cells #[.int .i64 (N : Int), .slice A E.length c] 44)) w.heap.size 44 [.int .i64 (N : Int), .slice A E.length c] := Arr.make _ _ _
  generalize w.alloc (.cells #[.int .i64 (N : Int), .slice A E.length c] 44) = W1 at *
  generalize w.heap.size = b4 at *
  obtain ⟨y1, rfl⟩ := hw1.later
  clear hw1
  go_loopw [9, 10] (fun s9 i wr => ∃ k : Nat, k ≤ N ∧ i = .int .i64 (k : Int) ∧ ∃ A9 c9, s9 = .slice A9 (nbK r u v k).length c9 ∧ ∃ y : Later y1.now, wr = y.now ∧ Own y.now y1.now.heap.size 3 1 A9 (nbK r u v k).length c9 ((nvI (nbK r u v k)).map (.int .i64))) (fun s9 i _ => N - (Go.RowKit.intOf i).toNat)
  case atStart => exact ⟨0, by omega, by go_num, none, 0, rfl, ⟨_, Grows.refl _⟩, rfl, Own.nil _ _ _ _⟩
  case round =>
    obtain ⟨k, hk, rfl, A9, c9, rfl, y, rfl, ho⟩ := hrel
    have HO := hide ho
    have hnl := nbK_len r u v k
    clear ho
    by_cases hlt : k < N
    · have kk := KR.out k hlt
      by_cases e1 : k = u
      · have HE : Hid (nbK r u v (k + 1) = nbK r u v k) := nbK_no (fun h => h.1 e1)
        subst e1
        go_wp2_with fail
        ((first | refine wp_region_gen (by kernel_rfl) (by kernel_rfl) ?_); (repeat' (first | (refine gLex_val0 rfl (by kernel_rfl) (fun K hK => ?_); (go_simp; (try (simp only [↓IntWalk.iteOmega]; try go_simp)); (try simp (disch := omega) only [IntWalk.i64_in]); (try simp (disch := omega) only [IntWalk.u64_in]); first | (refine hK _ ?_; clear hK K) | (apply Exists.intro; refine ⟨fun x => ?_, hK _ ?_⟩; (first | fail); clear hK K))) | (refine gLex_undef rfl rfl rfl (by kernel_rfl) (fun K hK => ?_); go_simp; refine hK _ ?_; clear hK K) | (refine gLex_ask rfl rfl rfl ?_; first | (apply gAsk_yes; kernel_rfl; intro K hK; (go_simp; (try (simp only [↓IntWalk.iteOmega]; try go_simp)); (try simp (disch := omega) only [IntWalk.i64_in]); (try simp (disch := omega) only [IntWalk.u64_in]); first | (refine hK _ ?_; clear hK K) | (apply Exists.intro; refine ⟨fun x => ?_, hK _ ?_⟩; (first | fail); clear hK K))) | ((first | apply gAsk_no1 | apply gAsk_no2); kernel_rfl; intro K hK; simp [go_sem]; refine hK _ ?_; clear hK K) | (apply gAsk_part; kernel_rfl; all_goals (intro h K hK; (try simp only [Bool.not_true] at h); (try simp only [Bool.not_false] at h); (try simp only [decide_eq_true_eq] at h); (try simp only [decide_eq_false_iff_not] at h); first | (exfalso; first | contradiction | omega) | (go_simp; (try (simp only [↓IntWalk.iteOmega]; try go_simp)); (try simp (disch := omega) only [IntWalk.i64_in]); (try simp (disch := omega) only [IntWalk.u64_in]); first | (refine hK _ ?_; clear hK K) | (apply Exists.intro; refine ⟨fun x => ?_, hK _ ?_⟩; (first | fail); clear hK K))))))); all_goals ((apply gLex_end); intro x))
        go_wp2_with fail
        exact ⟨⟨k + 1, by omega, by go_num, A9, c9, by rw [HE.out], ⟨_, y.grows.trans x.grows⟩, rfl, by rw [HE.out]; exact HO.out.grows x.grows⟩, by simp [Go.RowKit.intOf]; omega⟩
      · have b1 : ((k : Int) != (u : Int)) = true := by simp; omega
        by_cases e2 : k = v
        · have HE : Hid (nbK r u v (k + 1) = nbK r u v k) := nbK_no (fun h => h.2.1 e2)
          subst e2
          go_wp2_with fail
          ((first | refine wp_region_gen (by kernel_rfl) (by kernel_rfl) ?_); (repeat' (first | (refine gLex_val0 rfl (by kernel_rfl) (fun K hK => ?_); (go_simp; (try (simp only [↓IntWalk.iteOmega]; try go_simp)); (try simp (disch := omega) only [IntWalk.i64_in]); (try simp (disch := omega) only [IntWalk.u64_in]); first | (refine hK _ ?_; clear hK K) | (apply Exists.intro; refine ⟨fun x => ?_, hK _ ?_⟩; (first | fail); clear hK K))) | (refine gLex_undef rfl rfl rfl (by kernel_rfl) (fun K hK => ?_); go_simp; refine hK _ ?_; clear hK K) | (refine gLex_ask rfl rfl rfl ?_; first | (apply gAsk_yes; kernel_rfl; intro K hK; (go_simp; (try (simp only [↓IntWalk.iteOmega]; try go_simp)); (try simp (disch := omega) only [IntWalk.i64_in]); (try simp (disch := omega) only [IntWalk.u64_in]); first | (refine hK _ ?_; clear hK K) | (apply Exists.intro; refine ⟨fun x => ?_, hK _ ?_⟩; (first | fail); clear hK K))) | ((first | apply gAsk_no1 | apply gAsk_no2); kernel_rfl; intro K hK; simp [go_sem]; refine hK _ ?_; clear hK K) | (apply gAsk_part; kernel_rfl; all_goals (intro h K hK; (try simp only [Bool.not_true] at h); (try simp only [Bool.not_false] at h); (try simp only [decide_eq_true_eq] at h); (try simp only [decide_eq_false_iff_not] at h); first | (exfalso; first | contradiction | omega) | (go_simp; (try (simp only [↓IntWalk.iteOmega]; try go_simp)); (try simp (disch := omega) only [IntWalk.i64_in]); (try simp (disch := omega) only [IntWalk.u64_in]); first | (refine hK _ ?_; clear hK K) | (apply Exists.intro; refine ⟨fun x => ?_, hK _ ?_⟩; (first | fail); clear hK K))))))); all_goals ((apply gLex_end); intro x))
          go_wp2_with fail
          exact ⟨⟨k + 1, by omega, by go_num, A9, c9, by rw [HE.out], ⟨_, y.grows.trans x.grows⟩, rfl, by rw [HE.out]; exact HO.out.grows x.grows⟩, by simp [Go.RowKit.intOf]; omega⟩
        · have b2 : ((k : Int) != (v : Int)) = true := by simp; omega
          clear e1 e2
          by_cases e3 : min (gn r u) (gn r v) ≤ gn r k
          · have HE : Hid (nbK r u v (k + 1) = nbK r u v k ++ [k]) := nbK_yes ⟨by simp at b1; omega, by simp at b2; omega, e3⟩
            generalize gn r u = ru at *
            generalize gn r v = rv at *
            generalize gn r k = rk at *
            have e4 : decide (min (ru : Int) (rv : Int) ≤ (rk : Int)) = true := decide_eq_true (by omega)
            clear e3
            go_wp2_with fail
            ((first | refine wp_region_gen (by kernel_rfl) (by kernel_rfl) ?_); (repeat' (first | (refine gLex_val0 rfl (by kernel_rfl) (fun K hK => ?_); (go_simp; (try (simp only [↓IntWalk.iteOmega]; try go_simp)); (try simp (disch := omega) only [IntWalk.i64_in]); (try simp (disch := omega) only [IntWalk.u64_in]); first | (refine hK _ ?_; clear hK K) | (apply Exists.intro; refine ⟨fun x => ?_, hK _ ?_⟩; (first | fail); clear hK K))) | (refine gLex_undef rfl rfl rfl (by kernel_rfl) (fun K hK => ?_); go_simp; refine hK _ ?_; clear hK K) | (refine gLex_ask rfl rfl rfl ?_; first | (apply gAsk_yes; kernel_rfl; intro K hK; (go_simp; (try (simp only [↓IntWalk.iteOmega]; try go_simp)); (try simp (disch := omega) only [IntWalk.i64_in]); (try simp (disch := omega) only [IntWalk.u64_in]); first | (refine hK _ ?_; clear hK K) | (apply Exists.intro; refine ⟨fun x => ?_, hK _ ?_⟩; (first | fail); clear hK K))) | ((first | apply gAsk_no1 | apply gAsk_no2); kernel_rfl; intro K hK; simp [go_sem]; refine hK _ ?_; clear hK K) | (apply gAsk_part; kernel_rfl; all_goals (intro h K hK; (try simp only [Bool.not_true] at h); (try simp only [Bool.not_false] at h); (try simp only [decide_eq_true_eq] at h); (try simp only [decide_eq_false_iff_not] at h); first | (exfalso; first | contradiction | omega) | (go_simp; (try (simp only [↓IntWalk.iteOmega]; try go_simp)); (try simp (disch := omega) only [IntWalk.i64_in]); (try simp (disch := omega) only [IntWalk.u64_in]); first | (refine hK _ ?_; clear hK K) | (apply Exists.intro; refine ⟨fun x => ?_, hK _ ?_⟩; (first | fail); clear hK K))))))); all_goals ((apply gLex_end); intro x))
            go_wp2_with (at_builtin; refine wp_app1 elemInt rfl _ _ rfl y1.now GG (nbK r u v k).length c9 A9 _ rfl (HO.out.grows GG) _ _ _ rfl inferInstance rfl (by omega) ?_; intro A3 c3 y3 hown3; have HO3 := hide hown3; clear hown3)
            exact ⟨⟨k + 1, by omega, by go_num, A3, c3, by rw [HE.out, List.length_append, List.length_singleton], y3, rfl, by rw [HE.out, List.length_append, List.length_singleton, show (nvI (nbK r u v k ++ [k])) = nvI (nbK r u v k) ++ [(k : Int)] by simp [nvI], List.map_append]; exact HO3.out⟩, by simp [Go.RowKit.intOf]; omega⟩
          · have HE : Hid (nbK r u v (k + 1) = nbK r u v k) := nbK_no (fun h => e3 h.2.2)
            generalize gn r u = ru at *
            generalize gn r v = rv at *
            generalize gn r k = rk at *
            have e4 : decide (min (ru : Int) (rv : Int) ≤ (rk : Int)) = false := decide_eq_false (by omega)
            clear e3
            go_wp2_with fail
            ((first | refine wp_region_gen (by kernel_rfl) (by kernel_rfl) ?_); (repeat' (first | (refine gLex_val0 rfl (by kernel_rfl) (fun K hK => ?_); (go_simp; (try (simp only [↓IntWalk.iteOmega]; try go_simp)); (try simp (disch := omega) only [IntWalk.i64_in]); (try simp (disch := omega) only [IntWalk.u64_in]); first | (refine hK _ ?_; clear hK K) | (apply Exists.intro; refine ⟨fun x => ?_, hK _ ?_⟩; (first | fail); clear hK K))) | (refine gLex_undef rfl rfl rfl (by kernel_rfl) (fun K hK => ?_); go_simp; refine hK _ ?_; clear hK K) | (refine gLex_ask rfl rfl rfl ?_; first | (apply gAsk_yes; kernel_rfl; intro K hK; (go_simp; (try (simp only [↓IntWalk.iteOmega]; try go_simp)); (try simp (disch := omega) only [IntWalk.i64_in]); (try simp (disch := omega) only [IntWalk.u64_in]); first | (refine hK _ ?_; clear hK K) | (apply Exists.intro; refine ⟨fun x => ?_, hK _ ?_⟩; (first | fail); clear hK K))) | ((first | apply gAsk_no1 | apply gAsk_no2); kernel_rfl; intro K hK; simp [go_sem]; refine hK _ ?_; clear hK K) | (apply gAsk_part; kernel_rfl; all_goals (intro h K hK; (try simp only [Bool.not_true] at h); (try simp only [Bool.not_false] at h); (try simp only [decide_eq_true_eq] at h); (try simp only [decide_eq_false_iff_not] at h); first | (exfalso; first | contradiction | omega) | (go_simp; (try (simp only [↓IntWalk.iteOmega]; try go_simp)); (try simp (disch := omega) only [IntWalk.i64_in]); (try simp (disch := omega) only [IntWalk.u64_in]); first | (refine hK _ ?_; clear hK K) | (apply Exists.intro; refine ⟨fun x => ?_, hK _ ?_⟩; (first | fail); clear hK K))))))); all_goals ((apply gLex_end); intro x))
            go_wp2_with fail
            exact ⟨⟨k + 1, by omega, by go_num, A9, c9, by rw [HE.out], ⟨_, y.grows.trans x.grows⟩, rfl, by rw [HE.out]; exact HO.out.grows x.grows⟩, by simp [Go.RowKit.intOf]; omega⟩
    · obtain rfl : k = N := by omega
      have CA2 := hide (CA.out A9 c9 (nvI (nbK r u v k)))
      have hll : (nvI (nbK r u v k)).length = (nbK r u v k).length := by simp [nvI]
      rw [hll] at CA2
      have hrf := refL_len k E (noN (nvI (nbK r u v k))) u
      generalize (nbK r u v k).length = q at *
      generalize refL (srchOf k E (noN (nvI (nbK r u v k)))) u = T at *
      have HRF := hide hrf
      clear hll hrf
      go_wp2_with (go_at_call 88; refine (CA2.out _ GG (by have := HO.out.rd; exact this.grows GG) (by omega)).mono ?_; rintro e w' ⟨gd, rfl, hrow, hg⟩; obtain ⟨x3, rfl⟩ := hg.later; have kc := hrow.mine (j := v) (wv_at (by rw [HRF.out]; exact hv)); clear hrow hg)
      rw [HBL.out]
      go_ret
      exact ⟨rfl, GG⟩
def hasK (S : List Sc) (u v : Nat) (d : Int) : Nat → Bool
  | 0 => false
  | k + 1 => hasK S u v d k || (decide ((gs S k).f = u) && decide ((gs S k).t = v) && decide (((gs S k).w : Int) = d))
theorem hasK_is {S : List Sc} {u v i : Nat} {d : Int} (h1 : (gs S i).f = u) (h2 : (gs S i).t = v) (h3 : ((gs S i).w : Int) = d) : ∀ k, i < k → hasK S u v d k = true
  | 0, h => absurd h (by omega)
  | k + 1, h => by
    unfold hasK
    by_cases e : i = k
    · subst e; simp [h1, h2, h3]
    · rw [hasK_is h1 h2 h3 k (by omega)]; rfl
set_option maxRecDepth 20000 in
set_option maxHeartbeats 8000000 in
theorem r20Full (N : Nat) (A : Option Addr) (c : Nat) (E : List Edg) (B : Option Addr) (d : Nat) (r : List Nat) (A2 : Option Addr) (c2 : Nat) (S : List Sc) (w : World) (h : Rd w A 3 E.length (esCells E)) (hok : rightF N E = 0) (hr : Rd w B 1 N (nv r)) (hS : Rd w A2 6 S.length (hss S)) (hsl : S.length ≤ 1000000) (hfull : FullL N E r S) :
    Calls Try.prog 49 #[.agg #[.int .i64 (N : Int), .slice A E.length c], .agg #[.slice B N d, .slice A2 S.length c2]] w fun e w' => e = .returned (.bool true) ∧ Grows w w' := by
  have hN : N ≤ 4096 := by have := (right_in hok).2.1; omega
  have CB := hide (fun (u v : Nat) (hu : u < N) (hv : v < N) (W : World) (g : Grows w W) => r20Below N A c E B d r u v W (h.grows g) hok (hr.grows g) hu hv)
  have CA := hide (fun (u : Nat) (hu : u < N) (W : World) (g : Grows w W) => r14AllR N u A c E W (h.grows g) hok hu)
  have HF := hide (show ∀ u v, u < N → v < N → u ≠ v → gn (DsF N E u) v < farV → blF N E r u v = gn (DsF N E u) v → hasK S u v (gn (DsF N E u) v : Int) S.length = true from fun u v hu hv huv hd hb => by
    obtain ⟨i, h1, h2, h3, h4⟩ := hfull u v hu hv huv hd hb
    exact hasK_is h2 h3 (by rw [h4]; rfl) _ h1)
  have HSS := hide (show Rd w A2 6 S.length (sis (S.map Sc.si)) by rw [← sis_of]; exact hS)
  have HDL := hide (fun u => refL_len N E (noO []) u)
  obtain ⟨n2, hn2⟩ : ∃ n2, n2 = S.length := ⟨_, rfl⟩
  rw [← hn2] at HF HSS hsl ⊢
  have HN2 := hide hn2
  clear h hok hr hS hfull hn2
  go_enter Try.func49, Try.ntmps49
  go_wp2_with fail
  go_loopw [5] (fun i wr => ∃ u : Nat, u ≤ N ∧ i = .int .i64 (u : Int) ∧ ∃ y : Later ((w.alloc (.cells #[.int .i64 (N : Int), .slice A E.length c] 44)).alloc (.cells #[.slice B N d, .slice A2 n2 c2] 63)), wr = y.now) (fun i _ => N - (Go.RowKit.intOf i).toNat)
  case atStart => exact ⟨0, by omega, by go_num, ⟨_, Grows.refl _⟩, rfl⟩
  case round =>
    obtain ⟨u, hu, rfl, y, rfl⟩ := hrel
    by_cases hlt : u < N
    · have CA2 := hide (CA.out u hlt)
      have HDU := hide (HDL.out u)
      have HFU := hide (fun v hv huv hd hb => HF.out u v hlt hv huv hd hb)
      have CBU := hide (fun v hv => CB.out u v hlt hv)
      unfold DsF at HFU CA2
      generalize refL (srchOf N E (noO [])) u = T at *
      go_wp2_with (go_at_call 88; refine (CA2.out _ GG).mono ?_; rintro e w' ⟨gd, rfl, hrow, hg⟩; obtain ⟨x3, rfl⟩ := hg.later; have HROW := hide hrow; clear hrow hg)
      go_loopw [7] (fun i wr => ∃ v : Nat, v ≤ N ∧ i = .int .i64 (v : Int) ∧ ∃ y2 : Later x3.now, wr = y2.now) (fun i _ => N - (Go.RowKit.intOf i).toNat)
      case atStart => exact ⟨0, by omega, by go_num, ⟨_, Grows.refl _⟩, rfl⟩
      case round =>
        obtain ⟨v, hv, rfl, y2, rfl⟩ := hrel
        by_cases hlv : v < N
        · have kc : Holds x3.now ⟨gd, v, none⟩ (.int .u64 (gn T v : Int)) := ⟨(HROW.out.mine (j := v) (wv_at (by rw [HDU.out]; exact hlv))).cell⟩
          have CBV := hide (CBU.out v hlv)
          have HFV := hide (HFU.out v hlv)
          by_cases e1 : u = v
          · subst e1
            clear CBV HFV kc
            go_wp2_with fail
            ((first | refine wp_region_gen (by kernel_rfl) (by kernel_rfl) ?_); (repeat' (first | (refine gLex_val0 rfl (by kernel_rfl) (fun K hK => ?_); (go_simp; (try (simp only [↓IntWalk.iteOmega]; try go_simp)); (try simp (disch := omega) only [IntWalk.i64_in]); (try simp (disch := omega) only [IntWalk.u64_in]); first | (refine hK _ ?_; clear hK K) | (apply Exists.intro; refine ⟨fun x => ?_, hK _ ?_⟩; (first | fail); clear hK K))) | (refine gLex_undef rfl rfl rfl (by kernel_rfl) (fun K hK => ?_); go_simp; refine hK _ ?_; clear hK K) | (refine gLex_ask rfl rfl rfl ?_; first | (apply gAsk_yes; kernel_rfl; intro K hK; (go_simp; (try (simp only [↓IntWalk.iteOmega]; try go_simp)); (try simp (disch := omega) only [IntWalk.i64_in]); (try simp (disch := omega) only [IntWalk.u64_in]); first | (refine hK _ ?_; clear hK K) | (apply Exists.intro; refine ⟨fun x => ?_, hK _ ?_⟩; (first | fail); clear hK K))) | ((first | apply gAsk_no1 | apply gAsk_no2); kernel_rfl; intro K hK; simp [go_sem]; refine hK _ ?_; clear hK K) | (apply gAsk_part; kernel_rfl; all_goals (intro h K hK; (try simp only [Bool.not_true] at h); (try simp only [Bool.not_false] at h); (try simp only [decide_eq_true_eq] at h); (try simp only [decide_eq_false_iff_not] at h); first | (exfalso; first | contradiction | omega) | (go_simp; (try (simp only [↓IntWalk.iteOmega]; try go_simp)); (try simp (disch := omega) only [IntWalk.i64_in]); (try simp (disch := omega) only [IntWalk.u64_in]); first | (refine hK _ ?_; clear hK K) | (apply Exists.intro; refine ⟨fun x => ?_, hK _ ?_⟩; (first | fail); clear hK K))))))); all_goals ((apply gLex_end); intro x))
            go_wp2_with fail
            exact ⟨⟨u + 1, by omega, by go_num, ⟨_, GG⟩, rfl⟩, by simp [Go.RowKit.intOf]; omega⟩
          · have b1 : ((u : Int) == (v : Int)) = false := by simp; omega
            obtain ⟨x, hx⟩ : ∃ x : Int, x = (gn T v : Int) := ⟨_, rfl⟩
            obtain ⟨bl, hbl⟩ : ∃ bl : Int, bl = (blF N E r u v : Int) := ⟨_, rfl⟩
            rw [← hx] at kc
            rw [← hbl] at CBV
            by_cases e2 : farV ≤ gn T v
            · have b2 : decide (4611686018427387904 ≤ x) = true := decide_eq_true (by rw [hx]; unfold farV at e2; omega)
              clear e1 e2 hx hbl HFV
              go_wp2_with fail
              ((first | refine wp_region_gen (by kernel_rfl) (by kernel_rfl) ?_); (repeat' (first | (refine gLex_val0 rfl (by kernel_rfl) (fun K hK => ?_); (go_simp; (try (simp only [↓IntWalk.iteOmega]; try go_simp)); (try simp (disch := omega) only [IntWalk.i64_in]); (try simp (disch := omega) only [IntWalk.u64_in]); first | (refine hK _ ?_; clear hK K) | (apply Exists.intro; refine ⟨fun x => ?_, hK _ ?_⟩; (first | fail); clear hK K))) | (refine gLex_undef rfl rfl rfl (by kernel_rfl) (fun K hK => ?_); go_simp; refine hK _ ?_; clear hK K) | (refine gLex_ask rfl rfl rfl ?_; first | (apply gAsk_yes; kernel_rfl; intro K hK; (go_simp; (try (simp only [↓IntWalk.iteOmega]; try go_simp)); (try simp (disch := omega) only [IntWalk.i64_in]); (try simp (disch := omega) only [IntWalk.u64_in]); first | (refine hK _ ?_; clear hK K) | (apply Exists.intro; refine ⟨fun x => ?_, hK _ ?_⟩; (first | fail); clear hK K))) | ((first | apply gAsk_no1 | apply gAsk_no2); kernel_rfl; intro K hK; simp [go_sem]; refine hK _ ?_; clear hK K) | (apply gAsk_part; kernel_rfl; all_goals (intro h K hK; (try simp only [Bool.not_true] at h); (try simp only [Bool.not_false] at h); (try simp only [decide_eq_true_eq] at h); (try simp only [decide_eq_false_iff_not] at h); first | (exfalso; first | contradiction | omega) | (go_simp; (try (simp only [↓IntWalk.iteOmega]; try go_simp)); (try simp (disch := omega) only [IntWalk.i64_in]); (try simp (disch := omega) only [IntWalk.u64_in]); first | (refine hK _ ?_; clear hK K) | (apply Exists.intro; refine ⟨fun x => ?_, hK _ ?_⟩; (first | fail); clear hK K))))))); all_goals ((apply gLex_end); intro x))
              go_wp2_with fail
              exact ⟨⟨v + 1, by omega, by go_num, ⟨_, GG⟩, rfl⟩, by simp [Go.RowKit.intOf]; omega⟩
            · have b2 : decide (4611686018427387904 ≤ x) = false := decide_eq_false (by rw [hx]; unfold farV at e2; omega)
              by_cases e3 : bl = x
              · have HK := hide (HFV.out e1 (by omega) (by omega))
                rw [← hx] at HK
                clear e1 e2 hx hbl HFV
                subst e3
                go_wp2_with fail
                ((first | refine wp_region_gen (by kernel_rfl) (by kernel_rfl) ?_); (repeat' (first | (refine gLex_val0 rfl (by kernel_rfl) (fun K hK => ?_); (go_simp; (try (simp only [↓IntWalk.iteOmega]; try go_simp)); (try simp (disch := omega) only [IntWalk.i64_in]); (try simp (disch := omega) only [IntWalk.u64_in]); first | (refine hK _ ?_; clear hK K) | (apply Exists.intro; refine ⟨fun x => ?_, hK _ ?_⟩; (first | (go_at_call 89; exact CBV.out _ GG)); clear hK K))) | (refine gLex_undef rfl rfl rfl (by kernel_rfl) (fun K hK => ?_); go_simp; refine hK _ ?_; clear hK K) | (refine gLex_ask rfl rfl rfl ?_; first | (apply gAsk_yes; kernel_rfl; intro K hK; (go_simp; (try (simp only [↓IntWalk.iteOmega]; try go_simp)); (try simp (disch := omega) only [IntWalk.i64_in]); (try simp (disch := omega) only [IntWalk.u64_in]); first | (refine hK _ ?_; clear hK K) | (apply Exists.intro; refine ⟨fun x => ?_, hK _ ?_⟩; (first | (go_at_call 89; exact CBV.out _ GG)); clear hK K))) | ((first | apply gAsk_no1 | apply gAsk_no2); kernel_rfl; intro K hK; simp [go_sem]; refine hK _ ?_; clear hK K) | (apply gAsk_part; kernel_rfl; all_goals (intro h K hK; (try simp only [Bool.not_true] at h); (try simp only [Bool.not_false] at h); (try simp only [decide_eq_true_eq] at h); (try simp only [decide_eq_false_iff_not] at h); first | (exfalso; first | contradiction | omega) | (go_simp; (try (simp only [↓IntWalk.iteOmega]; try go_simp)); (try simp (disch := omega) only [IntWalk.i64_in]); (try simp (disch := omega) only [IntWalk.u64_in]); first | (refine hK _ ?_; clear hK K) | (apply Exists.intro; refine ⟨fun x => ?_, hK _ ?_⟩; (first | (go_at_call 89; exact CBV.out _ GG)); clear hK K))))))); all_goals ((apply gLex_end); intro x))
                go_wp2_with fail
                obtain ⟨y3, e3⟩ : ∃ y3 : Later y2.now, y3 = x := ⟨x, rfl⟩
                subst e3
                go_loopw [8, 9] (fun s8 i wr => ∃ j : Nat, j ≤ n2 ∧ i = .int .i64 (j : Int) ∧ s8 = .bool (hasK S u v bl j) ∧ ∃ y4 : Later y3.now, wr = y4.now) (fun _ i _ => n2 - (Go.RowKit.intOf i).toNat)
                case atStart => exact ⟨0, by omega, by go_num, rfl, ⟨_, Grows.refl _⟩, rfl⟩
                case round =>
                  obtain ⟨j, hj, rfl, rfl, y4, rfl⟩ := hrel
                  by_cases hlj : j < n2
                  · have HH0 : Hid (hasK S u v bl (j + 1) = (hasK S u v bl j || (decide ((gs S j).f = u) && decide ((gs S j).t = v) && decide (((gs S j).w : Int) = bl)))) := rfl
                    obtain ⟨bb, off, rfl, hcc⟩ := HSS.out.siH (by omega)
                    obtain ⟨c1, c2, c3, _, _, _⟩ := hcc j hlj
                    rw [gsi_of (by rw [← HN2.out]; exact hlj)] at c1 c2 c3
                    unfold Sc.si at c1 c2 c3
                    dsimp only at c1 c2 c3
                    clear hcc
                    generalize hasK S u v bl j = hj0 at *
                    generalize (gs S j).f = sf at *
                    generalize (gs S j).t = st at *
                    obtain ⟨sw, hsw⟩ : ∃ sw : Int, sw = ((gs S j).w : Int) := ⟨_, rfl⟩
                    rw [← hsw] at c3 HH0
                    clear hsw
                    cases hj0 with
                    | true =>
                      have HH : Hid (hasK S u v bl (j + 1) = true) := hide (by rw [HH0.out]; rfl)
                      go_wp2_with fail
                      ((first | refine wp_region_gen (by kernel_rfl) (by kernel_rfl) ?_); (repeat' (first | (refine gLex_val0 rfl (by kernel_rfl) (fun K hK => ?_); (go_simp; (try (simp only [↓IntWalk.iteOmega]; try go_simp)); (try simp (disch := omega) only [IntWalk.i64_in]); (try simp (disch := omega) only [IntWalk.u64_in]); first | (refine hK _ ?_; clear hK K) | (apply Exists.intro; refine ⟨fun x => ?_, hK _ ?_⟩; (first | fail); clear hK K))) | (refine gLex_undef rfl rfl rfl (by kernel_rfl) (fun K hK => ?_); go_simp; refine hK _ ?_; clear hK K) | (refine gLex_ask rfl rfl rfl ?_; first | (apply gAsk_yes; kernel_rfl; intro K hK; (go_simp; (try (simp only [↓IntWalk.iteOmega]; try go_simp)); (try simp (disch := omega) only [IntWalk.i64_in]); (try simp (disch := omega) only [IntWalk.u64_in]); first | (refine hK _ ?_; clear hK K) | (apply Exists.intro; refine ⟨fun x => ?_, hK _ ?_⟩; (first | fail); clear hK K))) | ((first | apply gAsk_no1 | apply gAsk_no2); kernel_rfl; intro K hK; simp [go_sem]; refine hK _ ?_; clear hK K) | (apply gAsk_part; kernel_rfl; all_goals (intro h K hK; (try simp only [Bool.not_true] at h); (try simp only [Bool.not_false] at h); (try simp only [decide_eq_true_eq] at h); (try simp only [decide_eq_false_iff_not] at h); first | (exfalso; first | contradiction | omega) | (go_simp; (try (simp only [↓IntWalk.iteOmega]; try go_simp)); (try simp (disch := omega) only [IntWalk.i64_in]); (try simp (disch := omega) only [IntWalk.u64_in]); first | (refine hK _ ?_; clear hK K) | (apply Exists.intro; refine ⟨fun x => ?_, hK _ ?_⟩; (first | fail); clear hK K))))))); all_goals ((apply gLex_end); intro x))
                      go_wp2_with fail
                      exact ⟨⟨j + 1, by omega, by go_num, by rw [HH.out], ⟨_, GG⟩, rfl⟩, by simp [Go.RowKit.intOf]; omega⟩
                    | false =>
                      by_cases q1 : sf = u
                      · by_cases q2 : st = v
                        · by_cases q3 : sw = bl
                          · have HH : Hid (hasK S u v bl (j + 1) = true) := hide (by rw [HH0.out]; simp [q1, q2, q3])
                            subst q1 q2 q3
                            go_wp2_with fail
                            ((first | refine wp_region_gen (by kernel_rfl) (by kernel_rfl) ?_); (repeat' (first | (refine gLex_val0 rfl (by kernel_rfl) (fun K hK => ?_); (go_simp; (try (simp only [↓IntWalk.iteOmega]; try go_simp)); (try simp (disch := omega) only [IntWalk.i64_in]); (try simp (disch := omega) only [IntWalk.u64_in]); first | (refine hK _ ?_; clear hK K) | (apply Exists.intro; refine ⟨fun x => ?_, hK _ ?_⟩; (first | fail); clear hK K))) | (refine gLex_undef rfl rfl rfl (by kernel_rfl) (fun K hK => ?_); go_simp; refine hK _ ?_; clear hK K) | (refine gLex_ask rfl rfl rfl ?_; first | (apply gAsk_yes; kernel_rfl; intro K hK; (go_simp; (try (simp only [↓IntWalk.iteOmega]; try go_simp)); (try simp (disch := omega) only [IntWalk.i64_in]); (try simp (disch := omega) only [IntWalk.u64_in]); first | (refine hK _ ?_; clear hK K) | (apply Exists.intro; refine ⟨fun x => ?_, hK _ ?_⟩; (first | fail); clear hK K))) | ((first | apply gAsk_no1 | apply gAsk_no2); kernel_rfl; intro K hK; simp [go_sem]; refine hK _ ?_; clear hK K) | (apply gAsk_part; kernel_rfl; all_goals (intro h K hK; (try simp only [Bool.not_true] at h); (try simp only [Bool.not_false] at h); (try simp only [decide_eq_true_eq] at h); (try simp only [decide_eq_false_iff_not] at h); first | (exfalso; first | contradiction | omega) | (go_simp; (try (simp only [↓IntWalk.iteOmega]; try go_simp)); (try simp (disch := omega) only [IntWalk.i64_in]); (try simp (disch := omega) only [IntWalk.u64_in]); first | (refine hK _ ?_; clear hK K) | (apply Exists.intro; refine ⟨fun x => ?_, hK _ ?_⟩; (first | fail); clear hK K))))))); all_goals ((apply gLex_end); intro x))
                            go_wp2_with fail
                            exact ⟨⟨j + 1, by omega, by go_num, by rw [HH.out], ⟨_, GG⟩, rfl⟩, by simp [Go.RowKit.intOf]; omega⟩
                          · have HH : Hid (hasK S u v bl (j + 1) = false) := hide (by rw [HH0.out]; simp [q3])
                            have q4 : (sw == bl) = false := by simpa using q3
                            subst q1 q2
                            clear q3
                            go_wp2_with fail
                            ((first | refine wp_region_gen (by kernel_rfl) (by kernel_rfl) ?_); (repeat' (first | (refine gLex_val0 rfl (by kernel_rfl) (fun K hK => ?_); (go_simp; (try (simp only [↓IntWalk.iteOmega]; try go_simp)); (try simp (disch := omega) only [IntWalk.i64_in]); (try simp (disch := omega) only [IntWalk.u64_in]); first | (refine hK _ ?_; clear hK K) | (apply Exists.intro; refine ⟨fun x => ?_, hK _ ?_⟩; (first | fail); clear hK K))) | (refine gLex_undef rfl rfl rfl (by kernel_rfl) (fun K hK => ?_); go_simp; refine hK _ ?_; clear hK K) | (refine gLex_ask rfl rfl rfl ?_; first | (apply gAsk_yes; kernel_rfl; intro K hK; (go_simp; (try (simp only [↓IntWalk.iteOmega]; try go_simp)); (try simp (disch := omega) only [IntWalk.i64_in]); (try simp (disch := omega) only [IntWalk.u64_in]); first | (refine hK _ ?_; clear hK K) | (apply Exists.intro; refine ⟨fun x => ?_, hK _ ?_⟩; (first | fail); clear hK K))) | ((first | apply gAsk_no1 | apply gAsk_no2); kernel_rfl; intro K hK; simp [go_sem]; refine hK _ ?_; clear hK K) | (apply gAsk_part; kernel_rfl; all_goals (intro h K hK; (try simp only [Bool.not_true] at h); (try simp only [Bool.not_false] at h); (try simp only [decide_eq_true_eq] at h); (try simp only [decide_eq_false_iff_not] at h); first | (exfalso; first | contradiction | omega) | (go_simp; (try (simp only [↓IntWalk.iteOmega]; try go_simp)); (try simp (disch := omega) only [IntWalk.i64_in]); (try simp (disch := omega) only [IntWalk.u64_in]); first | (refine hK _ ?_; clear hK K) | (apply Exists.intro; refine ⟨fun x => ?_, hK _ ?_⟩; (first | fail); clear hK K))))))); all_goals ((apply gLex_end); intro x))
                            go_wp2_with fail
                            exact ⟨⟨j + 1, by omega, by go_num, by rw [HH.out], ⟨_, GG⟩, rfl⟩, by simp [Go.RowKit.intOf]; omega⟩
                        · have HH : Hid (hasK S u v bl (j + 1) = false) := hide (by rw [HH0.out]; simp [q2])
                          have q4 : ((st : Int) == (v : Int)) = false := by simp; omega
                          subst q1
                          clear q2
                          go_wp2_with fail
                          ((first | refine wp_region_gen (by kernel_rfl) (by kernel_rfl) ?_); (repeat' (first | (refine gLex_val0 rfl (by kernel_rfl) (fun K hK => ?_); (go_simp; (try (simp only [↓IntWalk.iteOmega]; try go_simp)); (try simp (disch := omega) only [IntWalk.i64_in]); (try simp (disch := omega) only [IntWalk.u64_in]); first | (refine hK _ ?_; clear hK K) | (apply Exists.intro; refine ⟨fun x => ?_, hK _ ?_⟩; (first | fail); clear hK K))) | (refine gLex_undef rfl rfl rfl (by kernel_rfl) (fun K hK => ?_); go_simp; refine hK _ ?_; clear hK K) | (refine gLex_ask rfl rfl rfl ?_; first | (apply gAsk_yes; kernel_rfl; intro K hK; (go_simp; (try (simp only [↓IntWalk.iteOmega]; try go_simp)); (try simp (disch := omega) only [IntWalk.i64_in]); (try simp (disch := omega) only [IntWalk.u64_in]); first | (refine hK _ ?_; clear hK K) | (apply Exists.intro; refine ⟨fun x => ?_, hK _ ?_⟩; (first | fail); clear hK K))) | ((first | apply gAsk_no1 | apply gAsk_no2); kernel_rfl; intro K hK; simp [go_sem]; refine hK _ ?_; clear hK K) | (apply gAsk_part; kernel_rfl; all_goals (intro h K hK; (try simp only [Bool.not_true] at h); (try simp only [Bool.not_false] at h); (try simp only [decide_eq_true_eq] at h); (try simp only [decide_eq_false_iff_not] at h); first | (exfalso; first | contradiction | omega) | (go_simp; (try (simp only [↓IntWalk.iteOmega]; try go_simp)); (try simp (disch := omega) only [IntWalk.i64_in]); (try simp (disch := omega) only [IntWalk.u64_in]); first | (refine hK _ ?_; clear hK K) | (apply Exists.intro; refine ⟨fun x => ?_, hK _ ?_⟩; (first | fail); clear hK K))))))); all_goals ((apply gLex_end); intro x))
                          go_wp2_with fail
                          exact ⟨⟨j + 1, by omega, by go_num, by rw [HH.out], ⟨_, GG⟩, rfl⟩, by simp [Go.RowKit.intOf]; omega⟩
                      · have HH : Hid (hasK S u v bl (j + 1) = false) := hide (by rw [HH0.out]; simp [q1])
                        have q4 : ((sf : Int) == (u : Int)) = false := by simp; omega
                        clear q1
                        go_wp2_with fail
                        ((first | refine wp_region_gen (by kernel_rfl) (by kernel_rfl) ?_); (repeat' (first | (refine gLex_val0 rfl (by kernel_rfl) (fun K hK => ?_); (go_simp; (try (simp only [↓IntWalk.iteOmega]; try go_simp)); (try simp (disch := omega) only [IntWalk.i64_in]); (try simp (disch := omega) only [IntWalk.u64_in]); first | (refine hK _ ?_; clear hK K) | (apply Exists.intro; refine ⟨fun x => ?_, hK _ ?_⟩; (first | fail); clear hK K))) | (refine gLex_undef rfl rfl rfl (by kernel_rfl) (fun K hK => ?_); go_simp; refine hK _ ?_; clear hK K) | (refine gLex_ask rfl rfl rfl ?_; first | (apply gAsk_yes; kernel_rfl; intro K hK; (go_simp; (try (simp only [↓IntWalk.iteOmega]; try go_simp)); (try simp (disch := omega) only [IntWalk.i64_in]); (try simp (disch := omega) only [IntWalk.u64_in]); first | (refine hK _ ?_; clear hK K) | (apply Exists.intro; refine ⟨fun x => ?_, hK _ ?_⟩; (first | fail); clear hK K))) | ((first | apply gAsk_no1 | apply gAsk_no2); kernel_rfl; intro K hK; simp [go_sem]; refine hK _ ?_; clear hK K) | (apply gAsk_part; kernel_rfl; all_goals (intro h K hK; (try simp only [Bool.not_true] at h); (try simp only [Bool.not_false] at h); (try simp only [decide_eq_true_eq] at h); (try simp only [decide_eq_false_iff_not] at h); first | (exfalso; first | contradiction | omega) | (go_simp; (try (simp only [↓IntWalk.iteOmega]; try go_simp)); (try simp (disch := omega) only [IntWalk.i64_in]); (try simp (disch := omega) only [IntWalk.u64_in]); first | (refine hK _ ?_; clear hK K) | (apply Exists.intro; refine ⟨fun x => ?_, hK _ ?_⟩; (first | fail); clear hK K))))))); all_goals ((apply gLex_end); intro x))
                        go_wp2_with fail
                        exact ⟨⟨j + 1, by omega, by go_num, by rw [HH.out], ⟨_, GG⟩, rfl⟩, by simp [Go.RowKit.intOf]; omega⟩
                  · obtain rfl : j = n2 := by omega
                    have hk := HK.out
                    rw [hk]
                    clear hk
                    go_wp2_with fail
                    exact ⟨⟨v + 1, by omega, by go_num, ⟨_, GG⟩, rfl⟩, by simp [Go.RowKit.intOf]; omega⟩
              · have b3 : (bl != x) = true := by simpa using e3
                clear e1 e2 e3 hx hbl HFV
                go_wp2_with fail
                ((first | refine wp_region_gen (by kernel_rfl) (by kernel_rfl) ?_); (repeat' (first | (refine gLex_val0 rfl (by kernel_rfl) (fun K hK => ?_); (go_simp; (try (simp only [↓IntWalk.iteOmega]; try go_simp)); (try simp (disch := omega) only [IntWalk.i64_in]); (try simp (disch := omega) only [IntWalk.u64_in]); first | (refine hK _ ?_; clear hK K) | (apply Exists.intro; refine ⟨fun x => ?_, hK _ ?_⟩; (first | (go_at_call 89; exact CBV.out _ GG)); clear hK K))) | (refine gLex_undef rfl rfl rfl (by kernel_rfl) (fun K hK => ?_); go_simp; refine hK _ ?_; clear hK K) | (refine gLex_ask rfl rfl rfl ?_; first | (apply gAsk_yes; kernel_rfl; intro K hK; (go_simp; (try (simp only [↓IntWalk.iteOmega]; try go_simp)); (try simp (disch := omega) only [IntWalk.i64_in]); (try simp (disch := omega) only [IntWalk.u64_in]); first | (refine hK _ ?_; clear hK K) | (apply Exists.intro; refine ⟨fun x => ?_, hK _ ?_⟩; (first | (go_at_call 89; exact CBV.out _ GG)); clear hK K))) | ((first | apply gAsk_no1 | apply gAsk_no2); kernel_rfl; intro K hK; simp [go_sem]; refine hK _ ?_; clear hK K) | (apply gAsk_part; kernel_rfl; all_goals (intro h K hK; (try simp only [Bool.not_true] at h); (try simp only [Bool.not_false] at h); (try simp only [decide_eq_true_eq] at h); (try simp only [decide_eq_false_iff_not] at h); first | (exfalso; first | contradiction | omega) | (go_simp; (try (simp only [↓IntWalk.iteOmega]; try go_simp)); (try simp (disch := omega) only [IntWalk.i64_in]); (try simp (disch := omega) only [IntWalk.u64_in]); first | (refine hK _ ?_; clear hK K) | (apply Exists.intro; refine ⟨fun x => ?_, hK _ ?_⟩; (first | (go_at_call 89; exact CBV.out _ GG)); clear hK K))))))); all_goals ((apply gLex_end); intro x))
                go_wp2_with fail
                exact ⟨⟨v + 1, by omega, by go_num, ⟨_, GG⟩, rfl⟩, by simp [Go.RowKit.intOf]; omega⟩
        · obtain rfl : v = N := by omega
          go_wp2_with fail
          go_roundw
          case measure => simp [Go.RowKit.intOf]; omega
          case rel => exact ⟨u + 1, by omega, by go_num, ⟨_, GG⟩, rfl⟩
    · obtain rfl : u = N := by omega
      go_wp2_with fail
      go_ret
      exact ⟨rfl, GG⟩
end Go.Proofs.Ytgplpgldhoelcaa

namespace Go.Proofs.Ytgplpgldhoelcaa
open Go Go.RowKit
attribute [local go_sem] Oper.semAt_some
set_option maxRecDepth 20000 in
set_option maxHeartbeats 2000000 in
theorem hiEdge (N : Int) (A : Option Addr) (n c : Nat) (E : List Edg) (s : SI) (w : World) (h : Rd w A 3 n (esCells E)) (hn : n ≤ 1000000) :
    Calls Try.prog 127 #[.agg #[.int .i64 N, .slice A n c], siVal s] w fun e w' => e = .returned (.bool (edgeSB E s)) ∧ Grows w w' := by
  have hl := h.elen
  have HD : Hid (edgeSB E s = (decide (0 ≤ s.e ∧ s.e < E.length ∧ s.a = -1 ∧ s.b = -1) && ((ge E s.e.toNat).f == s.f && ((ge E s.e.toNat).t == s.t && (ge E s.e.toNat).w == s.w)))) := rfl
  rw [HD.out, hl]
  unfold siVal
  have HR := hide h
  have CG := hide (fun (i : Int) (W : World) => gEdge N i A n c W)
  clear h hl HD
  obtain ⟨f, t, wt, e, a, b⟩ := s
  dsimp only
  by_cases hc : 0 ≤ e ∧ e < n ∧ a = -1 ∧ b = -1
  · obtain ⟨h1, h2, rfl, rfl⟩ := hc
    obtain ⟨k, rfl⟩ : ∃ k : Nat, e = (k : Int) := ⟨e.toNat, by omega⟩
    have hk : k < n := by omega
    have CG2 := hide (fun (W : World) => by have := CG.out (k : Int) W; rw [show edgeB n (k : Int) = true from decide_eq_true (by omega)] at this; exact this)
    obtain ⟨bb, off, rfl, hcc⟩ := HR.out.edgesH (by omega)
    obtain ⟨c1, c2, c3⟩ := hcc k hk
    have hd : decide (0 ≤ (k : Int) ∧ (k : Int) < n ∧ (-1 : Int) = -1 ∧ (-1 : Int) = -1) = true := decide_eq_true ⟨h1, h2, rfl, rfl⟩
    rw [hd]
    simp only [Int.toNat_natCast, Bool.true_and]
    clear hcc h1 h2 hd HR CG
    generalize (ge E k).f = x1 at *
    generalize (ge E k).t = x2 at *
    generalize (ge E k).w = x3 at *
    have he := fun W => edge_eqv x1 x2 x3 f t wt W
    go_enter Try.func127, Try.ntmps127
    go_wp2_with (go_at_call 126; refine (CG2.out _).mono ?_; rintro e w' ⟨rfl, hg⟩; obtain ⟨y1, rfl⟩ := hg.later; clear hg)
    ((first | refine wp_region_gen (by kernel_rfl) (by kernel_rfl) ?_); (repeat' (first | (refine gLex_val0 rfl (by kernel_rfl) (fun K hK => ?_); (go_simp; (try (simp only [↓IntWalk.iteOmega]; try go_simp)); (try simp (disch := omega) only [IntWalk.i64_in]); (try simp (disch := omega) only [IntWalk.u64_in]); first | (refine hK _ ?_; clear hK K) | (apply Exists.intro; refine ⟨fun x => ?_, hK _ ?_⟩; (first | fail); clear hK K))) | (refine gLex_undef rfl rfl rfl (by kernel_rfl) (fun K hK => ?_); go_simp; refine hK _ ?_; clear hK K) | (refine gLex_ask rfl rfl rfl ?_; first | (apply gAsk_yes; kernel_rfl; intro K hK; (go_simp; (try (simp only [↓IntWalk.iteOmega]; try go_simp)); (try simp (disch := omega) only [IntWalk.i64_in]); (try simp (disch := omega) only [IntWalk.u64_in]); first | (refine hK _ ?_; clear hK K) | (apply Exists.intro; refine ⟨fun x => ?_, hK _ ?_⟩; (first | fail); clear hK K))) | ((first | apply gAsk_no1 | apply gAsk_no2); kernel_rfl; intro K hK; simp [go_sem]; refine hK _ ?_; clear hK K) | (apply gAsk_part; kernel_rfl; all_goals (intro h K hK; (try simp only [Bool.not_true] at h); (try simp only [Bool.not_false] at h); (try simp only [decide_eq_true_eq] at h); (try simp only [decide_eq_false_iff_not] at h); first | (exfalso; first | contradiction | omega) | (go_simp; (try (simp only [↓IntWalk.iteOmega]; try go_simp)); (try simp (disch := omega) only [IntWalk.i64_in]); (try simp (disch := omega) only [IntWalk.u64_in]); first | (refine hK _ ?_; clear hK K) | (apply Exists.intro; refine ⟨fun x => ?_, hK _ ?_⟩; (first | fail); clear hK K))))))); all_goals ((apply gLex_end); intro x))
    go_wp2_with fail
    go_ret
    exact ⟨rfl, GG⟩
  · have hd : decide (0 ≤ e ∧ e < n ∧ a = -1 ∧ b = -1) = false := decide_eq_false hc
    rw [hd, Bool.false_and]
    clear hd HR
    have HC := hide hc
    clear hc
    have CG2 := hide (CG.out e)
    have HE : Hid (edgeB n e = decide (0 ≤ e ∧ e < n)) := rfl
    clear CG
    generalize edgeB n e = be at *
    cases be with
    | false =>
      go_enter Try.func127, Try.ntmps127
      go_wp2_with (go_at_call 126; refine (CG2.out _).mono ?_; rintro e w' ⟨rfl, hg⟩; obtain ⟨y1, rfl⟩ := hg.later; clear hg)
      go_ret
      exact ⟨rfl, GG⟩
    | true =>
      by_cases q3 : a = -1
      · have q4 : (b != -1) = true := by
          have := HC.out
          have h2 := of_decide_eq_true HE.out.symm
          simp only [bne_iff_ne, ne_eq]
          intro e4
          exact this ⟨h2.1, h2.2, q3, e4⟩
        subst q3
        go_enter Try.func127, Try.ntmps127
        go_wp2_with (go_at_call 126; refine (CG2.out _).mono ?_; rintro e w' ⟨rfl, hg⟩; obtain ⟨y1, rfl⟩ := hg.later; clear hg)
        go_ret
        exact ⟨rfl, GG⟩
      · have q4 : (a != -1) = true := by simpa using q3
        clear q3
        go_enter Try.func127, Try.ntmps127
        go_wp2_with (go_at_call 126; refine (CG2.out _).mono ?_; rintro e w' ⟨rfl, hg⟩; obtain ⟨y1, rfl⟩ := hg.later; clear hg)
        go_ret
        exact ⟨rfl, GG⟩
def firstB (p : Nat → Bool) : Nat → Nat
  | 0 => 0
  | n + 1 => if firstB p n < n then firstB p n else if p n = true then n else n + 1
theorem firstB_none (p : Nat → Bool) : ∀ n, (∀ j, j < n → p j = false) → firstB p n = n
  | 0, _ => rfl
  | n + 1, h => by
    unfold firstB
    rw [firstB_none p n (fun j hj => h j (by omega)), if_neg (by omega), if_neg (by rw [h n (by omega)]; exact Bool.false_ne_true)]
theorem firstB_at (p : Nat → Bool) {k : Nat} (h : ∀ j, j < k → p j = false) (hk : p k = true) : ∀ n, k < n → firstB p n = k
  | 0, hn => absurd hn (by omega)
  | n + 1, hn => by
    unfold firstB
    by_cases e : k = n
    · subst e
      rw [firstB_none p k h, if_neg (by omega), if_pos hk]
    · rw [firstB_at p h hk n (by omega), if_pos (by omega)]
def hmR (N : Int) (E : List Edg) (r : List Int) (S : List SI) : Int × Bool :=
  if rightF N E ≠ 0 then (-2, false) else if ((r.length : Int) = N ∧ rkB r = true) then
    (if firstB (fun i => !madeOne E r S i) S.length < S.length then (((firstB (fun i => !madeOne E r S i) S.length : Nat) : Int), false) else (0, true)) else (-1, false)
theorem hmR_graph {N : Int} {E : List Edg} {r : List Int} {S : List SI} (h : rightF N E ≠ 0) : hmR N E r S = (-2, false) := if_pos h
theorem hmR_rank {N : Int} {E : List Edg} {r : List Int} {S : List SI} (h : rightF N E = 0) (h2 : ¬ ((r.length : Int) = N ∧ rkB r = true)) : hmR N E r S = (-1, false) := by
  unfold hmR
  rw [if_neg (fun e => e h), if_neg h2]
theorem hmR_at {N : Int} {E : List Edg} {r : List Int} {S : List SI} (h : rightF N E = 0) (h2 : (r.length : Int) = N ∧ rkB r = true) {k : Nat} (hk : k < S.length) (ha : ∀ j, j < k → madeOne E r S j = true) (hn : madeOne E r S k = false) : hmR N E r S = ((k : Int), false) := by
  have e := firstB_at (fun i => !madeOne E r S i) (k := k) (fun j hj => by rw [ha j hj]; rfl) (by rw [hn]; rfl) S.length hk
  unfold hmR
  rw [if_neg (fun e => e h), if_pos h2, e, if_pos hk]
theorem hmR_all {N : Int} {E : List Edg} {r : List Int} {S : List SI} (h : rightF N E = 0) (h2 : (r.length : Int) = N ∧ rkB r = true) (ha : ∀ j, j < S.length → madeOne E r S j = true) : hmR N E r S = (0, true) := by
  have e := firstB_none (fun i => !madeOne E r S i) S.length (fun j hj => by rw [ha j hj]; rfl)
  unfold hmR
  rw [if_neg (fun e => e h), if_pos h2, e, if_neg (by omega)]
theorem madeSB_hmR {N : Int} {E : List Edg} {r : List Int} {S : List SI} (h : rightF N E = 0) (hm : madeSB N E r S = true) : hmR N E r S = (0, true) := by
  unfold madeSB at hm
  simp only [Bool.and_eq_true, decide_eq_true_eq] at hm
  exact hmR_all h ⟨hm.1, hm.2.1⟩ hm.2.2
set_option maxRecDepth 20000 in
set_option maxHeartbeats 4000000 in
theorem hiMade (N : Int) (A : Option Addr) (n c : Nat) (E : List Edg) (B : Option Addr) (m d : Nat) (r : List Int) (A2 : Option Addr) (n2 c2 : Nat) (S : List SI) (w : World) (h : Rd w A 3 n (esCells E)) (hn : n ≤ 1000000) (hr : Rd w B 1 m (r.map (.int .i64))) (hm : m ≤ 1000000) (hS : Rd w A2 6 n2 (sis S)) (hn2 : n2 ≤ 1000000) (hcap : n2 ≤ c2) :
    Calls Try.prog 80 #[.agg #[.int .i64 N, .slice A n c], .agg #[.slice B m d, .slice A2 n2 c2]] w fun e w' => e = .returned (.tuple #[.int .i64 (hmR N E r S).1, .bool (hmR N E r S).2]) ∧ Grows w w' := by
  have hrl : r.length = m := by simpa using hr.len
  have hsl : S.length = n2 := by have := hS.1; rw [sis_len] at this; omega
  have C0 := hide (fun (W : World) (g : Grows w W) => gRight N A n c E W (h.grows g) hn)
  have C1 := hide (fun (W : World) (g : Grows w W) => rkRight B m d r W (hr.grows g) hm)
  by_cases hok : rightF N E = 0
  · rw [hok] at C0
    by_cases hmn : (m : Int) = N
    · cases hrk : rkB r with
      | false =>
        rw [hrk] at C1
        rw [hmR_rank hok (fun e => by rw [hrk] at e; cases e.2)]
        subst hmn
        clear h hr hS hok hrk hrl hsl
        go_enter Try.func80, Try.ntmps80
        go_wp2_with (first
          | (go_at_call 51; refine (C0.out _ GG).mono ?_; rintro e w' ⟨rfl, hg⟩; obtain ⟨x1, rfl⟩ := hg.later; clear hg)
          | (go_at_call 82; refine (C1.out _ GG).mono ?_; rintro e w' ⟨rfl, hg⟩; obtain ⟨x2, rfl⟩ := hg.later; clear hg))
        exact bodyPost_ret (v := .tuple #[.int .i64 (-1), .bool false]) (by simp [results, Try.results80, go_sem]) rfl ⟨rfl, GG⟩
      | true =>
        rw [hrk] at C1
        have HRK := hide (And.intro (show (r.length : Int) = N by rw [hrl]; exact hmn) hrk)
        have HOK := hide hok
        have HSL := hide hsl
        have CE := hide (fun (i : Nat) (W : World) (g : Grows w W) => hiEdge N A n c E (gsi S i) W (h.grows g) hn)
        have CT := hide (fun (i : Nat) (hi : i < n2) (hall : ∀ j, j < i → madeOne E r S j = true) (W : World) (g : Grows w W) => hiTwo B A2 m d n2 c2 i r S W (hS.grows g) hi (hr.grows g) (by rw [← hrl]; exact made_ends hok (by rw [hrl]; exact hmn) i hall))
        have HS := hide hS
        unfold siVal at CE CT
        obtain ⟨RR, hRR⟩ : ∃ RR, RR = hmR N E r S := ⟨_, rfl⟩
        rw [← hRR]
        have HRR := hide hRR
        clear hRR
        subst hmn
        clear h hr hS hok hrk hrl hsl
        go_enter Try.func80, Try.ntmps80
        go_wp2_with (first
          | (go_at_call 51; refine (C0.out _ GG).mono ?_; rintro e w' ⟨rfl, hg⟩; obtain ⟨x1, rfl⟩ := hg.later; clear hg)
          | (go_at_call 82; refine (C1.out _ GG).mono ?_; rintro e w' ⟨rfl, hg⟩; obtain ⟨x2, rfl⟩ := hg.later; clear hg))
        clear C0 C1
        go_loopw [28] (fun i wr => ∃ k : Nat, k ≤ n2 ∧ i = .int .i64 (k : Int) ∧ (∃ y : Later x2.now, wr = y.now) ∧ Hid (∀ j, j < k → madeOne E r S j = true)) (fun i _ => n2 - (Go.RowKit.intOf i).toNat)
        case atStart => exact ⟨0, by omega, by go_num, ⟨⟨_, Grows.refl _⟩, rfl⟩, fun j h => by omega⟩
        case round =>
          obtain ⟨k, hk, rfl, ⟨y, rfl⟩, HA⟩ := hrel
          by_cases hlt : k < n2
          · obtain ⟨bb, off, rfl, hcc⟩ := HS.out.siH (by omega)
            obtain ⟨c1, c2', c3, c4, c5, c6⟩ := hcc k hlt
            have CE2 := hide (CE.out k)
            have CT2 := hide (CT.out k hlt HA.out)
            have HMO : Hid (madeOne E r S k = (edgeSB E (gsi S k) || twoSB r S k)) := rfl
            have hkc : k ≤ c2 := by omega
            clear hcc CE CT
            generalize edgeSB E (gsi S k) = b1 at *
            generalize twoSB r S k = b2 at *
            generalize (gsi S k).f = sf at *
            generalize (gsi S k).t = st at *
            generalize (gsi S k).w = sw at *
            generalize (gsi S k).e = se at *
            generalize (gsi S k).a = sa at *
            generalize (gsi S k).b = sb at *
            cases b1 with
            | true =>
              have HN : Hid (∀ j, j < k + 1 → madeOne E r S j = true) := fun j hj => by
                by_cases e : j = k
                · rw [e, HMO.out]; rfl
                · exact HA.out j (by omega)
              go_wp2_with fail
              ((first | refine wp_region_gen (by kernel_rfl) (by kernel_rfl) ?_); (repeat' (first | (refine gLex_val0 rfl (by kernel_rfl) (fun K hK => ?_); (go_simp; (try (simp only [↓IntWalk.iteOmega]; try go_simp)); (try simp (disch := omega) only [IntWalk.i64_in]); (try simp (disch := omega) only [IntWalk.u64_in]); first | (refine hK _ ?_; clear hK K) | (apply Exists.intro; refine ⟨fun x => ?_, hK _ ?_⟩; (first | (go_at_call 127; exact CE2.out _ GG)); clear hK K))) | (refine gLex_undef rfl rfl rfl (by kernel_rfl) (fun K hK => ?_); go_simp; refine hK _ ?_; clear hK K) | (refine gLex_ask rfl rfl rfl ?_; first | (apply gAsk_yes; kernel_rfl; intro K hK; (go_simp; (try (simp only [↓IntWalk.iteOmega]; try go_simp)); (try simp (disch := omega) only [IntWalk.i64_in]); (try simp (disch := omega) only [IntWalk.u64_in]); first | (refine hK _ ?_; clear hK K) | (apply Exists.intro; refine ⟨fun x => ?_, hK _ ?_⟩; (first | (go_at_call 127; exact CE2.out _ GG)); clear hK K))) | ((first | apply gAsk_no1 | apply gAsk_no2); kernel_rfl; intro K hK; simp [go_sem]; refine hK _ ?_; clear hK K) | (apply gAsk_part; kernel_rfl; all_goals (intro h K hK; (try simp only [Bool.not_true] at h); (try simp only [Bool.not_false] at h); (try simp only [decide_eq_true_eq] at h); (try simp only [decide_eq_false_iff_not] at h); first | (exfalso; first | contradiction | omega) | (go_simp; (try (simp only [↓IntWalk.iteOmega]; try go_simp)); (try simp (disch := omega) only [IntWalk.i64_in]); (try simp (disch := omega) only [IntWalk.u64_in]); first | (refine hK _ ?_; clear hK K) | (apply Exists.intro; refine ⟨fun x => ?_, hK _ ?_⟩; (first | (go_at_call 127; exact CE2.out _ GG)); clear hK K))))))); all_goals ((apply gLex_end); intro x))
              go_wp2_with fail
              go_roundw
              case measure => simp [Go.RowKit.intOf]; omega
              case rel => exact ⟨k + 1, by omega, by go_num, ⟨⟨_, GG⟩, rfl⟩, HN⟩
            | false =>
              cases b2 with
              | true =>
                have HN : Hid (∀ j, j < k + 1 → madeOne E r S j = true) := fun j hj => by
                  by_cases e : j = k
                  · rw [e, HMO.out]; rfl
                  · exact HA.out j (by omega)
                go_wp2_with fail
                ((first | refine wp_region_gen (by kernel_rfl) (by kernel_rfl) ?_); (repeat' (first | (refine gLex_val0 rfl (by kernel_rfl) (fun K hK => ?_); (go_simp; (try (simp only [↓IntWalk.iteOmega]; try go_simp)); (try simp (disch := omega) only [IntWalk.i64_in]); (try simp (disch := omega) only [IntWalk.u64_in]); first | (refine hK _ ?_; clear hK K) | (apply Exists.intro; refine ⟨fun x => ?_, hK _ ?_⟩; (first | (go_at_call 127; exact CE2.out _ GG) | (go_at_call 128; exact CT2.out _ GG)); clear hK K))) | (refine gLex_undef rfl rfl rfl (by kernel_rfl) (fun K hK => ?_); go_simp; refine hK _ ?_; clear hK K) | (refine gLex_ask rfl rfl rfl ?_; first | (apply gAsk_yes; kernel_rfl; intro K hK; (go_simp; (try (simp only [↓IntWalk.iteOmega]; try go_simp)); (try simp (disch := omega) only [IntWalk.i64_in]); (try simp (disch := omega) only [IntWalk.u64_in]); first | (refine hK _ ?_; clear hK K) | (apply Exists.intro; refine ⟨fun x => ?_, hK _ ?_⟩; (first | (go_at_call 127; exact CE2.out _ GG) | (go_at_call 128; exact CT2.out _ GG)); clear hK K))) | ((first | apply gAsk_no1 | apply gAsk_no2); kernel_rfl; intro K hK; simp [go_sem]; refine hK _ ?_; clear hK K) | (apply gAsk_part; kernel_rfl; all_goals (intro h K hK; (try simp only [Bool.not_true] at h); (try simp only [Bool.not_false] at h); (try simp only [decide_eq_true_eq] at h); (try simp only [decide_eq_false_iff_not] at h); first | (exfalso; first | contradiction | omega) | (go_simp; (try (simp only [↓IntWalk.iteOmega]; try go_simp)); (try simp (disch := omega) only [IntWalk.i64_in]); (try simp (disch := omega) only [IntWalk.u64_in]); first | (refine hK _ ?_; clear hK K) | (apply Exists.intro; refine ⟨fun x => ?_, hK _ ?_⟩; (first | (go_at_call 127; exact CE2.out _ GG) | (go_at_call 128; exact CT2.out _ GG)); clear hK K))))))); all_goals ((apply gLex_end); intro x))
                go_wp2_with fail
                go_roundw
                case measure => simp [Go.RowKit.intOf]; omega
                case rel => exact ⟨k + 1, by omega, by go_num, ⟨⟨_, GG⟩, rfl⟩, HN⟩
              | false =>
                have HB : Hid (RR = ((k : Int), false)) := hide (by rw [HRR.out]; exact hmR_at HOK.out HRK.out (by rw [HSL.out]; exact hlt) HA.out (by rw [HMO.out]; rfl))
                go_wp2_with fail
                ((first | refine wp_region_gen (by kernel_rfl) (by kernel_rfl) ?_); (repeat' (first | (refine gLex_val0 rfl (by kernel_rfl) (fun K hK => ?_); (go_simp; (try (simp only [↓IntWalk.iteOmega]; try go_simp)); (try simp (disch := omega) only [IntWalk.i64_in]); (try simp (disch := omega) only [IntWalk.u64_in]); first | (refine hK _ ?_; clear hK K) | (apply Exists.intro; refine ⟨fun x => ?_, hK _ ?_⟩; (first | (go_at_call 127; exact CE2.out _ GG) | (go_at_call 128; exact CT2.out _ GG)); clear hK K))) | (refine gLex_undef rfl rfl rfl (by kernel_rfl) (fun K hK => ?_); go_simp; refine hK _ ?_; clear hK K) | (refine gLex_ask rfl rfl rfl ?_; first | (apply gAsk_yes; kernel_rfl; intro K hK; (go_simp; (try (simp only [↓IntWalk.iteOmega]; try go_simp)); (try simp (disch := omega) only [IntWalk.i64_in]); (try simp (disch := omega) only [IntWalk.u64_in]); first | (refine hK _ ?_; clear hK K) | (apply Exists.intro; refine ⟨fun x => ?_, hK _ ?_⟩; (first | (go_at_call 127; exact CE2.out _ GG) | (go_at_call 128; exact CT2.out _ GG)); clear hK K))) | ((first | apply gAsk_no1 | apply gAsk_no2); kernel_rfl; intro K hK; simp [go_sem]; refine hK _ ?_; clear hK K) | (apply gAsk_part; kernel_rfl; all_goals (intro h K hK; (try simp only [Bool.not_true] at h); (try simp only [Bool.not_false] at h); (try simp only [decide_eq_true_eq] at h); (try simp only [decide_eq_false_iff_not] at h); first | (exfalso; first | contradiction | omega) | (go_simp; (try (simp only [↓IntWalk.iteOmega]; try go_simp)); (try simp (disch := omega) only [IntWalk.i64_in]); (try simp (disch := omega) only [IntWalk.u64_in]); first | (refine hK _ ?_; clear hK K) | (apply Exists.intro; refine ⟨fun x => ?_, hK _ ?_⟩; (first | (go_at_call 127; exact CE2.out _ GG) | (go_at_call 128; exact CT2.out _ GG)); clear hK K))))))); all_goals ((apply gLex_end); intro x))
                go_wp2_with fail
                exact bodyPost_ret (v := .tuple #[.int .i64 (k : Int), .bool false]) (by simp [results, Try.results80, go_sem]) rfl ⟨by rw [HB.out], GG⟩
          · obtain rfl : k = n2 := by omega
            have HB : Hid (RR = (0, true)) := hide (by rw [HRR.out]; exact hmR_all HOK.out HRK.out (by rw [HSL.out]; exact HA.out))
            go_wp2_with fail
            exact bodyPost_ret (v := .tuple #[.int .i64 0, .bool true]) (by simp [results, Try.results80, go_sem]) rfl ⟨by rw [HB.out], GG⟩
    · rw [hmR_rank hok (fun e => hmn (by rw [← hrl]; exact e.1))]
      have hne : ((m : Int) != N) = true := by simpa using hmn
      clear h hr hS hok hmn hrl hsl
      go_enter Try.func80, Try.ntmps80
      go_wp2_with (go_at_call 51; refine (C0.out _ GG).mono ?_; rintro e w' ⟨rfl, hg⟩; obtain ⟨x1, rfl⟩ := hg.later; clear hg)
      exact bodyPost_ret (v := .tuple #[.int .i64 (-1), .bool false]) (by simp [results, Try.results80, go_sem]) rfl ⟨rfl, GG⟩
  · rw [hmR_graph hok]
    have hb : (rightF N E != 0) = true := by simpa using hok
    clear h hr hS hok hrl hsl
    generalize rightF N E = r0 at *
    go_enter Try.func80, Try.ntmps80
    go_wp2_with (go_at_call 51; refine (C0.out _ GG).mono ?_; rintro e w' ⟨rfl, hg⟩; obtain ⟨x1, rfl⟩ := hg.later; clear hg)
    exact bodyPost_ret (v := .tuple #[.int .i64 (-2), .bool false]) (by simp [results, Try.results80, go_sem]) rfl ⟨rfl, GG⟩
end Go.Proofs.Ytgplpgldhoelcaa

