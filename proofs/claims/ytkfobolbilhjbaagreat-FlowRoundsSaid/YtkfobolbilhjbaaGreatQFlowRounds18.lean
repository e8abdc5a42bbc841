/- Contract: what demands do, by the answer. -/
import Derived.Test.YtkfobolbilhjbaaGreatQFlowRounds02
import Derived.Test.YtkfobolbilhjbaaGreatQFlowRounds05
import Derived.Test.YtkfobolbilhjbaaGreatQFlowRounds14
import Derived.Test.YtkfobolbilhjbaaGreatQFlowRounds15
import Derived.Test.YtkfobolbilhjbaaGreatQFlowRounds16
import Derived.Test.YtkfobolbilhjbaaGreatQFlowRounds17
namespace Go.Proofs.YtkfobolbilhjbaaGreat
open Go Go.RowKit
def AsgJ (w : World) (b3 b5 b6 b10 g : Nat) (G O : List Value) (n : Nat) (L : List Int) (lost : Int) (W : World) : Prop :=
  (∃ y : Later w, W = y.now) ∧ Arr W b3 24 G ∧ Arr W b5 61 O ∧ Arr W b6 39 [.slice none 0 0, .int .u64 0] ∧ Arr W b10 39 [.slice (some ⟨g, 0, none⟩) n n, .int .u64 lost] ∧ Arr W g 26 (uv L)
theorem AsgJ.grow {w W W' : World} {b3 b5 b6 b10 g n : Nat} {G O : List Value} {L : List Int} {lost : Int} (h : AsgJ w b3 b5 b6 b10 g G O n L lost W) (hg : Grows W W') : AsgJ w b3 b5 b6 b10 g G O n L lost W' := by
  obtain ⟨⟨y, rfl⟩, h1, h2, h3, h4, h5⟩ := h
  exact ⟨⟨⟨W', y.grows.trans hg⟩, rfl⟩, h1.grow hg, h2.grow hg, h3.grow hg, h4.grow hg, h5.grow hg⟩
theorem AsgJ.put {w W : World} {b3 b5 b6 b10 g n : Nat} {G O : List Value} {L : List Int} {lost : Int} (h : AsgJ w b3 b5 b6 b10 g G O n L lost W) (hg : w.heap.size ≤ g) (wt : Int) (e : Nat) : AsgJ w b3 b5 b6 b10 g G O n (addOne wt L e) lost (W.setCell ⟨g, e, none⟩ (.int .u64 (IntKind.u64.wrap (gi L e + wt)))) := by
  obtain ⟨⟨y, rfl⟩, h1, h2, h3, h4, h5⟩ := h
  have n1 := h1.ne h5 (by decide)
  have n2 := h2.ne h5 (by decide)
  have n3 := h3.ne h5 (by decide)
  have n4 := h4.ne h5 (by decide)
  refine ⟨⟨⟨_, y.grows.set (p := ⟨g, e, none⟩) hg _⟩, rfl⟩, h1.other (p := ⟨g, e, none⟩) (Ne.symm n1) _, h2.other (p := ⟨g, e, none⟩) (Ne.symm n2) _, h3.other (p := ⟨g, e, none⟩) (Ne.symm n3) _, h4.other (p := ⟨g, e, none⟩) (Ne.symm n4) _, ?_⟩
  rw [uv_one]
  exact h5.set e _
theorem AsgJ.lose {w W : World} {b3 b5 b6 b10 g n : Nat} {G O : List Value} {L : List Int} {lost : Int} (h : AsgJ w b3 b5 b6 b10 g G O n L lost W) (hg : w.heap.size ≤ b10) (h36 : b10 ≠ b6) (x : Int) : AsgJ w b3 b5 b6 b10 g G O n L x (W.setCell ⟨b10, 1, none⟩ (.int .u64 x)) := by
  obtain ⟨⟨y, rfl⟩, h1, h2, h3, h4, h5⟩ := h
  have n1 := h1.ne h4 (by decide)
  have n2 := h2.ne h4 (by decide)
  have n4 := h4.ne h5 (by decide)
  exact ⟨⟨⟨_, y.grows.set (p := ⟨b10, 1, none⟩) hg _⟩, rfl⟩, h1.other (p := ⟨b10, 1, none⟩) (Ne.symm n1) _, h2.other (p := ⟨b10, 1, none⟩) (Ne.symm n2) _, h3.other (p := ⟨b10, 1, none⟩) h36 _, h4.set 1 _, h5.other (p := ⟨b10, 1, none⟩) n4 _⟩
def RteQ (n f : Nat) (xs : List Value) : Pr := fun u w => ∃ A c, u = .agg #[.slice A n c, .int .u64 (f : Int)] ∧ Own w 0 3 1 A n c xs
set_option maxRecDepth 40000 in
set_option maxHeartbeats 16000000 in
theorem r47Assign (N : Int) (A : Option Addr) (c : Nat) (E : List Edg) (B : Option Addr) (d : Nat) (D : List Edg) (o : DOpt) (An Ae Aw : Option Addr) (cn ce cw : Nat) (P : Ways) (w : World) (h : Rd w A 3 E.length (esCells E)) (hD : Rd w B 3 D.length (esCells D)) (h2 : Rd w An 1 o.nn.length (o.nn.map (.int .i64))) (h3 : Rd w Ae 1 o.ne.length (o.ne.map (.int .i64))) (h4 : Rd w Aw 1 o.W.length (wv o.W))
    (hn : E.length ≤ 1000000) (hn3 : o.W.length ≤ 1000000) (hd : D.length ≤ 1000000) (hP : WaysOf E o N D P) :
    Calls Tryz.prog 19 #[.agg #[.int .i64 N, .slice A E.length c], .slice B D.length d, oVal o.back (.slice An o.nn.length cn) (.slice Ae o.ne.length ce) Aw o.W.length cw o.most] w (AsgP w (asgR N E D o P).1 (asgR N E D o P).2.1 (asgR N E D o P).2.2) := by
  have C1 := hide (fun (W : World) (g : Grows w W) => r47Right N A c E B d D W (h.grows g) (hD.grows g) hn hd)
  have C2 := hide (fun (W : World) (g : Grows w W) => show Calls Tryz.prog 34 #[.agg #[.int .i64 N, .slice A E.length c], .int .i64 0, .agg #[.bool o.back, .slice An o.nn.length cn, .slice Ae o.ne.length ce, .slice Aw o.W.length cw, .int .u64 (o.most : Int)]] W fun e w' => e = .returned (.int .i64 (dcF N 0 E o.W)) ∧ Grows W w' from r14Check N 0 A E.length c E o.back (.slice An o.nn.length cn) (.slice Ae o.ne.length ce) Aw o.W.length cw o.most o.W W (h.grows g) (h4.grows g) hn hn3)
  unfold oVal
  by_cases hf : fRightF N E D = 0
  · by_cases hc : dcF N 0 E o.W = 0
    · have e1 : asgR N E D o P = ((asgS D P E.length D.length).1, (asgS D P E.length D.length).2, 0) := by unfold asgR; rw [if_neg (by omega), if_neg (by omega)]
      rw [e1]
      rw [hf] at C1
      rw [hc] at C2
      have HD := hide hD
      have HP := hide hP
      have K1 := hide (fun (k : Nat) (hk : k < D.length) (W1 : World) (g : Grows w W1) => show Calls Tryz.prog 35 #[.agg #[.int .i64 N, .slice A E.length c], .int .i64 (ge D k).f, .int .i64 (ge D k).t, .agg #[.bool o.back, .slice An o.nn.length cn, .slice Ae o.ne.length ce, .slice Aw o.W.length cw, .int .u64 (o.most : Int)]] W1 fun e w' =>
          ∃ A' c', e = .returned (.tuple #[.agg #[.slice A' (P k).1.length c', .int .u64 ((P k).2.1 : Int)], .int .i64 (P k).2.2]) ∧ Own w' W1.heap.size 3 1 A' (P k).1.length c' (nv (P k).1) ∧ Grows W1 w' from
        r15Path N _ _ A c E o An Ae Aw cn ce cw _ _ _ W1 (h.grows g) (h2.grows g) (h3.grows g) (h4.grows g) hn hn3 (hP k hk))
      clear e1 h h2 h3 h4 hD hP hf hc
      have hm : E.length ≤ 1000000 := hn
      generalize o.most = mo at *
      generalize o.back = back at *
      go_enter Tryz.func19, Tryz.ntmps19
      go_wp2_with fail
      refine (C1.out _ GG).mono ?_; rintro e w' ⟨rfl, hg⟩; obtain ⟨x1, rfl⟩ := Grows.later hg; clear hg
      go_wp2_with fail
      refine (C2.out _ GG).mono ?_; rintro e W0 ⟨rfl, hg⟩
      have a3 : Arr W0 w.heap.size 24 [.int .i64 N, .slice A E.length c] := Arr.grow ⟨by simp [heap_push, Array.getElem_push, Array.getElem?_push, eq_add2]⟩ (x1.grows.trans hg)
      have a5 : Arr W0 (w.heap.size + 1) 61 [.bool back, .slice An o.nn.length cn, .slice Ae o.ne.length ce, .slice Aw o.W.length cw, .int .u64 (mo : Int)] := Arr.grow ⟨by simp [heap_push, Array.getElem_push]⟩ (x1.grows.trans hg)
      have a6 : Arr W0 (w.heap.size + 1 + 1) 39 [.slice none 0 0, .int .u64 0] := Arr.grow ⟨by simp [heap_push, Array.getElem_push]⟩ (x1.grows.trans hg)
      have hgw : Grows w W0 := Grows.trans (by show Grows w x1.now; exact GG) hg
      clear hg C1 C2
      obtain ⟨lo, hlo⟩ : ∃ lo, w.heap.size = lo := ⟨_, rfl⟩
      have hl3 : w.heap.size ≤ lo := by omega
      have hl6 : lo < lo + 1 ∧ lo + 1 < lo + 1 + 1 := by omega
      rw [hlo] at a3 a5 a6 ⊢
      clear hlo
      generalize lo + 1 + 1 = b6 at *
      generalize lo + 1 = b5 at *
      obtain ⟨y0, rfl⟩ := hgw.later
      clear hgw
      have mk := run_makeU64s E.length (by omega)
      have hb6 := a6.ty.lt
      go_upto_region 9 with fail
      have hgr := y0.grows.size
      have HI0 : Hid (AsgJ w lo b5 b6 (y0.now.heap.size + 1) y0.now.heap.size [.int .i64 N, .slice A E.length c] [.bool back, .slice An o.nn.length cn, .slice Ae o.ne.length ce, .slice Aw o.W.length cw, .int .u64 (mo : Int)] E.length (asgS D P E.length 0).1 (asgS D P E.length 0).2
          ((y0.now.alloc (.cells (Array.replicate E.length (Value.int .u64 0)) 26)).alloc (.cells #[.slice (some ⟨y0.now.heap.size, 0, none⟩) E.length E.length, .int .u64 0] 39))) := by
        have gg : Grows y0.now ((y0.now.alloc (.cells (Array.replicate E.length (Value.int .u64 0)) 26)).alloc (.cells #[.slice (some ⟨y0.now.heap.size, 0, none⟩) E.length E.length, .int .u64 0] 39)) := ((Grows.refl _).new _).new _
        refine ⟨⟨⟨_, y0.grows.trans gg⟩, rfl⟩, a3.grow gg, a5.grow gg, a6.grow gg, ?_, ?_⟩
        · have := Arr.make (y0.now.alloc (.cells (Array.replicate E.length (Value.int .u64 0)) 26)) [.slice (some ⟨y0.now.heap.size, 0, none⟩) E.length E.length, .int .u64 0] 39
          rw [show (y0.now.alloc (.cells (Array.replicate E.length (Value.int .u64 0)) 26)).heap.size = y0.now.heap.size + 1 by simp] at this
          exact this
        · have := (Arr.make y0.now (List.replicate E.length (Value.int .u64 0)) 26).grow ((Grows.refl _).new (.cells #[.slice (some ⟨y0.now.heap.size, 0, none⟩) E.length E.length, .int .u64 0] 39))
          simpa [uv, asgS] using this
      clear a3 a5 a6 mk
      have hgb : b6 < y0.now.heap.size := hb6
      generalize hgg : y0.now.heap.size = g at *
      clear hgg hb6
      have hb10 : g < g + 1 := by omega
      generalize g + 1 = b10 at *
      go_loopw [11] (fun i wr => ∃ k : Nat, k ≤ D.length ∧ i = .int .i64 (k : Int) ∧ AsgJ w lo b5 b6 b10 g [.int .i64 N, .slice A E.length c] [.bool back, .slice An o.nn.length cn, .slice Ae o.ne.length ce, .slice Aw o.W.length cw, .int .u64 (mo : Int)] E.length (asgS D P E.length k).1 (asgS D P E.length k).2 wr) (fun i _ => D.length - (Go.RowKit.intOf i).toNat)
      case atStart => exact ⟨0, by omega, by go_num, HI0.out⟩
      case round =>
        clear HI0
        obtain ⟨k, hk, rfl, hJ⟩ := hrel
        have HJ := hide hJ
        obtain ⟨⟨y, rfl⟩, a3, a5, a6, a10, ag⟩ := id hJ
        by_cases hlt : k < D.length
        · obtain ⟨bD, oD, rfl, hcc⟩ := HD.out.edgesH (by omega)
          obtain ⟨z1, z2, z3⟩ := hcc k hlt
          have HLE := hide (asgS_len D P E.length k)
          have hlk : decide ((k : Int) < (D.length : Int)) = true := decide_eq_true (by omega)
          clear hcc
          go_upto_region 11 with fail
          refine wp_region_box (bxS 16 17 14 12 54 69 [.slice none 0 0, .int .u64 0]) (by kernel_rfl) (by kernel_rfl) (by kernel_rfl) (fun oa os h1 h2 => by injection h1 with h1; injection h2 with h2; subst h1 h2; exact bxS_runs (by kernel_rfl) rfl rfl) ?_
          (repeat' (refine gLexX_val0 rfl (by kernel_rfl) (by kernel_rfl) (fun K hK => ?_); go_simp; (try (simp only [↓IntWalk.iteOmega]; try go_simp)); (try simp (disch := omega) only [IntWalk.i64_in]); (try simp (disch := omega) only [IntWalk.u64_in]); first | (refine hK _ ?_; clear hK K) | (apply Exists.intro; refine ⟨fun x => ?_, hK _ ?_⟩; (first | fail); clear hK K)))
          refine gLexX_prop rfl (by kernel_rfl) (by kernel_rfl) rfl (by simp) (PairQ (RteQ (P k).1.length (P k).2.1 (nv (P k).1)) (.int .i64 (P k).2.2)) (fun x S hS => ?_) ?_
          · go_simp
            refine (K1.out k hlt _ GG).mono ?_
            rintro e w' ⟨A8, c8, rfl, ho, hg⟩
            exact ⟨_, rfl, hg, fun w'' ht => ⟨_, rfl, A8, c8, rfl, (ho.noBox (fun k hk => (hS k hk).2) ht).base (Nat.zero_le _)⟩⟩
          refine gLexX_pair (by kernel_rfl) ⟨rfl, rfl, rfl, rfl, rfl, rfl⟩ ⟨rfl, rfl, rfl, rfl, rfl⟩ ⟨rfl, rfl, rfl, rfl, rfl⟩ (by decide) rfl (by decide) rfl (by simp) (by kernel_rfl) (by kernel_rfl) (by kernel_rfl) (by kernel_rfl) (by kernel_rfl) (by kernel_rfl) ?good ?_
          case good =>
            rintro v w1 ⟨A8, c8, rfl, _⟩
            exact ⟨_, rfl, rfl, by simp [Value.oneCell']⟩
          refine gLexX_end (fun v S b12 hb12 => ?_)
          refine AtX.pop rfl (by simp) (fun z1 hz1 => ?_)
          obtain rfl : z1 = _ := hz1
          refine AtX.pop rfl (by simp [Act.put]) (fun z2 _ => ?_)
          refine AtX.pop rfl (by simp [Act.put]) (fun z3 hz3 => ?_)
          obtain rfl : z3 = _ := hz3
          refine AtX.pop rfl (by simp [Act.put]) (fun z4 hz4 => ?_)
          obtain ⟨A', c', rfl, ho⟩ := hz4
          refine AtX.pop rfl (by simp [Act.put]) (fun z5 _ => ?_)
          refine AtX.pop rfl (by simp [Act.put]) (fun z6 _ => ?_)
          refine AtX.base (by simp [Act.put, bxS]; rfl) (by simp [Act.put, bxS]; rfl) (fun e9 ha12 => ?_)
          subst e9
          simp only [Act.put, List.setIfInBounds_toArray, List.set_cons_zero, List.set_cons_succ]
          have a12 : Arr v.now b12 69 [.slice A' (P k).1.length c', .int .u64 ((P k).2.1 : Int)] := ha12
          clear ha12
          · skip
            have HJ := hide (HJ.out.grow v.grows)
            have HO := hide ho
            replace a3 := a3.grow v.grows
            replace a5 := a5.grow v.grows
            replace a6 := a6.grow v.grows
            replace a10 := a10.grow v.grows
            replace ag := ag.grow v.grows
            have hyg := y.grows.trans v.grows
            clear ho
            clear hJ
            generalize v.now = W2 at *
            obtain ⟨y1, rfl⟩ := hyg.later
            clear hyg
            by_cases hr : (P k).2.2 = 0
            · have hS1 : asgS D P E.length (k + 1) = (addAt (asgS D P E.length k).1 (ge D k).w (P k).1, (asgS D P E.length k).2) := by rw [asgS, if_pos hr]
              have HS1 := hide hS1
              have hsh : (P k).1.length ≤ 1000000 := by have := (HP.out k hlt).short.1; omega
              have hed := (HP.out k hlt).edges
              have HED := hide hed
              have HNE := hide (ag.own_ne HO.out (by decide))
              have hng : b12 ≠ g := a12.ne ag (by decide)
              have hr9 : ((P k).2.2 == 0) = true := by simp [hr]
              rw [hr]
              clear hS1 hr hr9 K1 hed
              generalize (P k).1 = es at *
              generalize asgS D P E.length k = S at *
              go_wp2_with fail
              go_loopw [14] (fun s wr => ∃ j : Nat, j ≤ es.length ∧ s = .int .i64 (j : Int) ∧ AsgJ w lo b5 b6 b10 g [.int .i64 N, .slice A E.length c] [.bool back, .slice An o.nn.length cn, .slice Ae o.ne.length ce, .slice Aw o.W.length cw, .int .u64 (mo : Int)] E.length (addAt S.1 (ge D k).w (es.take j)) S.2 wr ∧ Arr wr b12 69 [.slice A' es.length c', .int .u64 ((P k).2.1 : Int)] ∧ Rd wr A' 1 es.length (nv es)) (fun s _ => es.length - (Go.RowKit.intOf s).toNat)
              case atStart => exact ⟨0, by omega, by go_num, HJ.out, a12, HO.out.rd⟩
              case round =>
                clear a3 a5 a6 a10 ag a12 HJ HO
                obtain ⟨j, hj, rfl, hJ, a12, hrd⟩ := hrel
                have HJ := hide hJ
                have HRD := hide hrd
                obtain ⟨⟨y2, rfl⟩, a3, a5, a6, a10, ag⟩ := id hJ
                by_cases hjl : j < es.length
                · have hjd : decide ((j : Int) < (es.length : Int)) = true := decide_eq_true (by omega)
                  have hin : gn es j < E.length := HED.out _ (by unfold gn; rw [List.getD_eq_getElem?_getD, List.getElem?_eq_getElem hjl]; exact List.getElem_mem hjl)
                  obtain ⟨bE, oE, rfl, hc⟩ := HRD.out.at_ (by omega)
                  have c1 : Holds y2.now ⟨bE, oE + j, none⟩ (.int .i64 (gn es j : Int)) := ⟨hc j _ (nv_at hjl)⟩
                  have hll : (addAt S.1 (ge D k).w (es.take j)).length = E.length := by rw [addAt_len, HLE.out]
                  have m1 : Mine y2.now ⟨g, gn es j, none⟩ (.int .u64 (gi (addAt S.1 (ge D k).w (es.take j)) (gn es j))) := ag.mine _ (uv_at (by rw [hll]; exact hin))
                  have HSS := hide (addAt_succ S.1 (ge D k).w es j hjl)
                  clear hc hJ hll hrd ag
                  generalize addAt S.1 (ge D k).w (es.take j) = L' at *
                  go_upto_region 17 with fail
                  (refine wp_region_tail1 23 (by kernel_rfl) (by kernel_rfl) ?_; simp only [List.take_succ_cons, List.take_zero, List.drop_succ_cons, List.drop_zero]; (repeat' ((first | refine gLex_val0 rfl (by kernel_rfl) (fun K hK => ?_) | refine gLex_undef rfl rfl rfl (by kernel_rfl) (fun K hK => ?_) | (refine gLex_ask rfl rfl rfl ?_; first | (apply gAsk_yes; kernel_rfl; intro K hK) | ((first | apply gAsk_no1 | apply gAsk_no2); kernel_rfl; intro K hK))) <;> (go_simp; (try (simp only [↓IntWalk.iteOmega]; try go_simp)); (try simp (disch := omega) only [IntWalk.i64_in]); (try simp (disch := omega) only [IntWalk.u64_in]); refine hK _ ?_; clear hK K))))
                  refine gLex_endT (fun y9 => ?_)
                  go_wp2_with fail
                  have HJ9 := hide ((HJ.out.grow y9.grows).put (by omega) (ge D k).w (gn es j))
                  have HR9 := hide ((HRD.out.grows y9.grows).touch ((Touch.refl (fun q => q = g) _).set (p := ⟨g, gn es j, none⟩) (.inl rfl) (.int .u64 (IntKind.u64.wrap (gi L' (gn es j) + (ge D k).w)))) (fun p hp => HNE.out p hp))
                  have a129 := (a12.grow y9.grows).other (p := ⟨g, gn es j, none⟩) (by show g ≠ b12; omega) (.int .u64 (IntKind.u64.wrap (gi L' (gn es j) + (ge D k).w)))
                  go_roundw
                  case measure => simp [Go.RowKit.intOf]; omega
                  case rel =>
                    refine ⟨j + 1, by omega, by go_num, ?_, a129, HR9.out⟩
                    rw [HSS.out]
                    exact HJ9.out
                · have hjd : decide ((j : Int) < (es.length : Int)) = false := decide_eq_false (by omega)
                  have hke : es.take j = es := List.take_of_length_le (by omega)
                  rw [hke] at HJ
                  clear hJ hke hrd ag
                  go_wp2_with fail
                  go_roundw
                  case measure => simp [Go.RowKit.intOf]; omega
                  case rel =>
                    refine ⟨k + 1, by omega, by go_num, ?_⟩
                    rw [HS1.out]
                    exact HJ.out
            · have hS1 : asgS D P E.length (k + 1) = ((asgS D P E.length k).1, IntKind.u64.wrap ((asgS D P E.length k).2 + (ge D k).w)) := by rw [asgS, if_neg hr]
              have HS1 := hide hS1
              have hr9 : ((P k).2.2 == 0) = false := beq_eq_false_iff_ne.2 hr
              clear hS1 hr K1
              generalize asgS D P E.length k = S at *
              go_upto_region 13 with fail
              (refine wp_region_tail1 9 (by kernel_rfl) (by kernel_rfl) ?_; simp only [List.take_succ_cons, List.take_zero, List.drop_succ_cons, List.drop_zero]; (repeat' ((first | refine gLex_val0 rfl (by kernel_rfl) (fun K hK => ?_) | refine gLex_undef rfl rfl rfl (by kernel_rfl) (fun K hK => ?_) | (refine gLex_ask rfl rfl rfl ?_; first | (apply gAsk_yes; kernel_rfl; intro K hK) | ((first | apply gAsk_no1 | apply gAsk_no2); kernel_rfl; intro K hK))) <;> (go_simp; (try (simp only [↓IntWalk.iteOmega]; try go_simp)); (try simp (disch := omega) only [IntWalk.i64_in]); (try simp (disch := omega) only [IntWalk.u64_in]); refine hK _ ?_; clear hK K))))
              refine gLex_endT (fun y9 => ?_)
              go_wp2_with fail
              go_roundw
              case measure => simp [Go.RowKit.intOf]; omega
              case rel =>
                refine ⟨k + 1, by omega, by go_num, ?_⟩
                rw [HS1.out]
                exact (HJ.out.grow y9.grows).lose (by omega) (by omega) _
        · have hkk : k = D.length := by omega
          subst hkk
          have HLE := hide (asgS_len D P E.length D.length)
          have hlk : decide ((D.length : Int) < (D.length : Int)) = false := decide_eq_false (by omega)
          have h56 : b6 ≠ g := by omega
          have HAG := hide ag
          clear ag HJ
          generalize asgS D P E.length D.length = S at *
          go_wp2_with fail
          refine bodyPost_ret (v := .tuple #[.agg #[.slice (some ⟨g, 0, none⟩) E.length E.length, .int .u64 S.2], .int .i64 0]) (by simp (maxDischargeDepth := 6) [results, Tryz.results19, go_sem, *]) rfl ?_
          have hag := (HAG.out.other (p := ⟨b6, 0, none⟩) (by show b6 ≠ g; omega) (.slice (some ⟨g, 0, none⟩) E.length E.length)).other (p := ⟨b6, 1, none⟩) (by show b6 ≠ g; omega) (.int .u64 S.2)
          refine ⟨some ⟨g, 0, none⟩, E.length, by rw [HLE.out], hag.rd (by rw [uv_len]; omega), fun p hp => (by injection hp with hp; subst hp; show _ ≤ g; omega), (y.grows.set (p := ⟨b6, 0, none⟩) (by show _ ≤ b6; omega) _).set (p := ⟨b6, 1, none⟩) (by show _ ≤ b6; omega) _⟩
    · have e1 : asgR N E D o P = ([], 0, dcF N 0 E o.W) := by unfold asgR; rw [if_neg (by omega), if_pos hc]
      rw [e1]
      rw [hf] at C1
      have hr9 : (dcF N 0 E o.W == 0) = false := beq_eq_false_iff_ne.2 hc
      clear e1 h h2 h3 h4 hD hP hf hc
      generalize dcF N 0 E o.W = r at *
      generalize o.most = mo at *
      generalize o.back = back at *
      go_enter Tryz.func19, Tryz.ntmps19
      go_wp2_with fail
      refine (C1.out _ GG).mono ?_; rintro e w' ⟨rfl, hg⟩; obtain ⟨x1, rfl⟩ := Grows.later hg; clear hg
      go_wp2_with fail
      refine (C2.out _ GG).mono ?_; rintro e W0 ⟨rfl, hg⟩; obtain ⟨x2, hx2⟩ : ∃ x2 : Later x1.now, W0 = x2.now := hg.later; subst hx2; clear hg
      go_wp2_with fail
      refine bodyPost_ret (v := .tuple #[.agg #[.slice none 0 0, .int .u64 0], .int .i64 r]) (by simp (maxDischargeDepth := 6) [results, Tryz.results19, go_sem, *]) rfl ?_
      exact ⟨none, 0, rfl, ⟨rfl, fun h => absurd h (by simp)⟩, fun p hp => (by cases hp), GG⟩
  · have e1 : asgR N E D o P = ([], 0, fRightF N E D) := by unfold asgR; rw [if_pos hf]
    rw [e1]
    have hr9 : (fRightF N E D == 0) = false := beq_eq_false_iff_ne.2 hf
    clear e1 h h2 h3 h4 hD hP hf
    generalize fRightF N E D = r at *
    generalize o.most = mo at *
    generalize o.back = back at *
    go_enter Tryz.func19, Tryz.ntmps19
    go_wp2_with fail
    refine (C1.out _ GG).mono ?_; rintro e w' ⟨rfl, hg⟩; obtain ⟨x1, rfl⟩ := Grows.later hg; clear hg
    go_wp2_with fail
    refine bodyPost_ret (v := .tuple #[.agg #[.slice none 0 0, .int .u64 0], .int .i64 r]) (by simp (maxDischargeDepth := 6) [results, Tryz.results19, go_sem, *]) rfl ?_
    exact ⟨none, 0, rfl, ⟨rfl, fun h => absurd h (by simp)⟩, fun p hp => (by cases hp), GG⟩
end Go.Proofs.YtkfobolbilhjbaaGreat

namespace Go.Proofs.YtkfobolbilhjbaaGreat
open Go Go.RowKit
section
variable {P : Program} {w0 : World} {ops : Array Oper} {Q : Act → Env → Prop} {a : Act} {G : Env} {o : Oper} {rest : List Oper}
theorem dep_exec {a' : Act} {t0 : Tmp} {v : Value} (h5 : ∀ cs b, o.op ≠ .select cs b) (ht0 : t0 < a.tmps.size) (hv : a'.tmps[t0]? = some v) (h : ∀ t ∈ o.looksAt ops, t = t0 ∨ a'.tmps[t]? = a.tmps[t]?) : execOp a'.eval o = execOp (a.put (some t0) v).eval o := by
  refine execOp_congr o h5 fun x hx => ?_
  cases x with
  | tmp t =>
    have ht : t ∈ o.looksAt ops := List.mem_append_left _ (List.mem_filterMap.2 ⟨.tmp t, by simpa using hx, rfl⟩)
    have h' : a'.tmps[t]? = (a.put (some t0) v).tmps[t]? := by
      by_cases e : t = t0
      · subst e
        rw [hv]
        simp [Act.put, ht0]
      · rw [(h t ht).resolve_left e]
        simp [Act.put, Array.getElem?_setIfInBounds_ne (Ne.symm e)]
    simp only [Act.eval, Array.getD_eq_getD_getElem?, h']
  | _ => rfl
def AtA (Q : Exit → Act → World → Prop) (a : Act) (G : Env) (w' : World) : Prop := ∀ a', Conc G a a' w' → Q .normal a' w'
theorem AtA.pop {Q : Exit → Act → World → Prop} {w' : World} {t : Tmp} {p : Pr} (hG : G t = none) (ht : t < a.tmps.size) (h : ∀ v, p v w' → AtA Q (a.put (some t) v) G w') : AtA Q a (G.upd t p) w' := fun a' hc => by
  obtain ⟨v, hv⟩ := conc_upd hc ht
  rcases hv with ⟨hp, hc2⟩ | hne
  · exact h v hp a' hc2
  · exact absurd hG hne
theorem AtA.base {Q : Exit → Act → World → Prop} {w' : World} (h : Q .normal a w') : AtA Q a Env.no w' := fun a' hc => by rw [conc_no hc]; exact h
end
end Go.Proofs.YtkfobolbilhjbaaGreat

namespace Go.Proofs.YtkfobolbilhjbaaGreat
open Go Go.RowKit
section
variable {P : Program} {ops : Array Oper} {w0 : World} {B : Bx} {Q : Act → Env → Prop} {a : Act} {G : Env} {o : Oper} {rest : List Oper} {k : Nat}
theorem gLexX_depW {t0 t : Tmp} {p0 : Pr} (hg : o.guard = none) (hp : depB ops o G t0 = true) (hk : (k == B.si || k == B.ia) = false) (h0 : G t0 = some p0) (ht0 : t0 < a.tmps.size) (hd : o.dst = some t) (hlt : t < a.tmps.size)
    (p : Pr) (hr : ∀ (x : Later w0) (S : Nat → Prop) (v : Value), InS w0 x.now S → p0 v x.now → runsTo P (fun u w' => Grows x.now w' ∧ ∀ w'', Touch S w' w'' → p u w'') ((execOp (a.put (some t0) v).eval o).run P x.now))
    (h : gLexX P ops w0 B Q (k + 1) rest a (G.upd t p)) : gLexX P ops w0 B Q k (o :: rest) a G := by
  obtain ⟨h1, h2, h3, h4, h5⟩ := dep_spec hp
  simp only [Bool.or_eq_false_iff, beq_eq_false_iff_ne] at hk
  refine ⟨.inr p, ⟨h1, h2, .inl ⟨by unfold Region.wanted; rw [hg], ⟨t, hd, hlt⟩, fun _ w S hw hS a' ha' => ?_, fun e => absurd e hk.1, fun e => absurd e hk.2⟩⟩, ?_⟩
  · have hv := ha' t0 h4
    unfold relX at hv
    rw [h0] at hv
    obtain ⟨v, hv, hpv⟩ := hv
    rw [dep_exec h5 ht0 hv (fun t ht => (h3 t ht).imp id (fun e => by
      have h6 := ha' t ht
      unfold relX at h6
      rw [e] at h6
      exact h6))]
    exact hr ⟨w, hw⟩ S v hS (hpv w (Touch.refl _ _))
  · rw [hd]
    exact h
end
end Go.Proofs.YtkfobolbilhjbaaGreat

namespace Go.Proofs.YtkfobolbilhjbaaGreat
open Go Go.RowKit
theorem uv_nat {L : List Int} (h : ∀ z ∈ L, 0 ≤ z) : uv L = wv (L.map Int.toNat) := by
  unfold uv wv
  rw [List.map_map]
  refine List.map_congr_left fun x hx => ?_
  have := h x hx
  show Value.int .u64 x = .int .u64 ((x.toNat : Nat) : Int)
  rw [Int.toNat_of_nonneg this]
theorem addAt_nn (n : Int) : ∀ (es : List Nat) (L : List Int), (∀ z ∈ L, 0 ≤ z) → ∀ z ∈ addAt L n es, 0 ≤ z
  | [], L, h => h
  | e :: es, L, h => addAt_nn n es _ (fun z hz => by
      unfold addOne at hz
      rcases List.mem_or_eq_of_mem_set hz with h1 | h1
      · exact h z h1
      · rw [h1]
        unfold IntKind.wrap
        simp [IntKind.bits, IntKind.signed]
        omega)
theorem asgS_nn (D : List Edg) (P : Ways) (m : Nat) : ∀ k, ∀ z ∈ (asgS D P m k).1, 0 ≤ z
  | 0 => fun z hz => by
    have : z = 0 := List.eq_of_mem_replicate hz
    omega
  | k + 1 => by
    unfold asgS
    split
    · exact addAt_nn _ _ _ (asgS_nn D P m k)
    · exact asgS_nn D P m k
theorem asgR_nn (N : Int) (E D : List Edg) (o : DOpt) (P : Ways) : ∀ z ∈ (asgR N E D o P).1, 0 ≤ z := by
  unfold asgR
  split
  · intro z hz; cases hz
  split
  · intro z hz; cases hz
  · exact asgS_nn _ _ _ _
theorem asgR_len (N : Int) (E D : List Edg) (o : DOpt) (P : Ways) : (asgR N E D o P).1.length ≤ E.length := by
  unfold asgR
  split
  · exact Nat.zero_le _
  split
  · exact Nat.zero_le _
  · rw [asgS_len]; exact Nat.le_refl _
def RepQ (lo n : Nat) (L : List Value) (lost : Int) : Pr := fun u w => ∃ A c, u = .agg #[.slice A n c, .int .u64 lost] ∧ Rd w A 1 n L ∧ ∀ p, A = some p → lo ≤ p.block
def DemQ (n : Nat) (D : List Edg) : Pr := fun u w => ∃ A c, u = .slice A n c ∧ Rd w A 3 n (esCells D)
theorem DemQ.lasts (n : Nat) (D : List Edg) : Lasts (DemQ n D) := fun _ _ _ hg ⟨A, c, e, h⟩ => ⟨A, c, e, h.grows hg⟩
theorem Rd.noBox {w w' : World} {A : Option Addr} {size n B : Nat} {xs : List Value} {S : Nat → Prop} (h : Rd w A size n xs) (hA : ∀ p, A = some p → B ≤ p.block) (hS : ∀ k, S k → k < B) (ht : Touch S w w') : Rd w' A size n xs :=
  h.touch ht (fun p hp hs => by have := hA p hp; have := hS _ hs; omega)
end Go.Proofs.YtkfobolbilhjbaaGreat

namespace Go.Proofs.YtkfobolbilhjbaaGreat
open Go Go.RowKit
attribute [local go_sem] Oper.semAt_some
theorem wv_snocF {L : List Nat} {v : Nat} : wv (L ++ [v]) = wv L ++ [.int .u64 (v : Int)] := by simp [wv]
theorem Rd.natsF {w : World} {A : Option Addr} {n : Nat} {W : List Nat} (h : Rd w A 1 n (wv W)) (hn : 0 < n) : ∃ b off, A = some ⟨b, off, none⟩ ∧ ∀ k, k < n → Holds w ⟨b, off + k, none⟩ (.int .u64 (gn W k : Int)) := by
  have hl : W.length = n := h.wlen
  obtain ⟨b, off, e, hc⟩ := h.2 hn (by omega)
  refine ⟨b, off, e, fun k hk => ⟨?_⟩⟩
  have hk2 : k < W.length := by omega
  exact hc k _ (by simp [wv, gn, hk2])
def GiveFW (w : World) (R : List Nat) (f : Int) (e : Ending) (w' : World) : Prop := ∃ A' c', e = .returned (.tuple #[.slice A' R.length c', .int .i64 f]) ∧ Own w' w.heap.size 26 1 A' R.length c' (wv R) ∧ Grows w w'
theorem GiveFW.no (w : World) {w' : World} (h : Grows w w') : GiveFW w [] 1 (.returned (.tuple #[.slice none 0 0, .int .i64 1])) w' := ⟨none, 0, rfl, Own.nil _ _ _ _, h⟩
theorem wt_cast (x u : Nat) : min ((x : Int) + (u : Int)) 17592186044416 = ((min (x + u) maxPen : Nat) : Int) := by
  have : maxPen = 17592186044416 := rfl
  rw [this]
  omega
set_option maxRecDepth 20000 in
set_option maxHeartbeats 4000000 in
theorem fWeights (N : Int) (A : Option Addr) (n c : Nat) (E : List Edg) (B : Option Addr) (m d : Nat) (L : List Nat) (a b : Int) (w : World) (h : Rd w A 3 n (esCells E)) (hn : n ≤ 1000000) (h2 : Rd w B 1 m (wv L)) (hm : m ≤ 1000000) (hL : ∀ i, gn L i < 18446744073709551616) :
    Calls Tryz.prog 9 #[.agg #[.int .i64 N, .slice A n c], .slice B m d, .agg #[.int .u64 a, .int .u64 b]] w (GiveFW w (wfR N E L a b) (wfF N E L a b)) := by
  have hEl : E.length = n := h.elen
  have hLl : L.length = m := h2.wlen
  have C1 := hide (fun (X : World) (g : Grows w X) => gRight N A n c E X (h.grows g) hn)
  have C2 := hide (fun (X : World) => ratioRight a b X)
  by_cases hr : rightF N E = 0
  rotate_left
  · have e1 : wfR N E L a b = [] := by unfold wfR; rw [if_pos (.inl hr)]
    have e2 : wfF N E L a b = 1 := by unfold wfF; rw [if_pos (.inl hr)]
    have hrb : (rightF N E != 0) = true := by simpa using hr
    rw [e1, e2]
    generalize rightF N E = rf at *
    clear h h2 hr e1 e2 hEl hLl
    go_enter Tryz.func9, Tryz.ntmps9
    go_wp2_with (go_at_call 20; refine (C1.out _ GG).mono ?_; rintro e w' ⟨rfl, hg⟩; obtain ⟨x1, rfl⟩ := hg.later; clear hg)
    refine bodyPost_ret (v := .tuple #[.slice none 0 0, .int .i64 1]) (by simp (maxDischargeDepth := 6) [results, Tryz.results9, go_sem, *]) rfl ?_
    exact GiveFW.no w GG
  rw [hr] at C1
  by_cases hmn : m = n
  rotate_left
  · have e1 : wfR N E L a b = [] := by unfold wfR; rw [if_pos (.inr (.inl (by omega)))]
    have e2 : wfF N E L a b = 1 := by unfold wfF; rw [if_pos (.inr (.inl (by omega)))]
    have hmb : ((m : Int) != (n : Int)) = true := by simpa using (show ¬ (m : Int) = (n : Int) by omega)
    rw [e1, e2]
    clear h h2 hr e1 e2 hEl hLl hmn
    go_enter Tryz.func9, Tryz.ntmps9
    go_wp2_with (go_at_call 20; refine (C1.out _ GG).mono ?_; rintro e w' ⟨rfl, hg⟩; obtain ⟨x1, rfl⟩ := hg.later; clear hg)
    refine bodyPost_ret (v := .tuple #[.slice none 0 0, .int .i64 1]) (by simp (maxDischargeDepth := 6) [results, Tryz.results9, go_sem, *]) rfl ?_
    exact GiveFW.no w GG
  subst hmn
  cases hb : rrB a b with
  | false =>
    have e1 : wfR N E L a b = [] := by unfold wfR; rw [if_pos (.inr (.inr hb))]
    have e2 : wfF N E L a b = 1 := by unfold wfF; rw [if_pos (.inr (.inr hb))]
    rw [hb] at C2
    rw [e1, e2]
    clear h h2 hr e1 e2 hEl hLl hb
    go_enter Tryz.func9, Tryz.ntmps9
    go_wp2_with (first
      | (go_at_call 20; refine (C1.out _ GG).mono ?_; rintro e w' ⟨rfl, hg⟩; obtain ⟨x1, rfl⟩ := hg.later; clear hg)
      | (go_at_call 16; refine (C2.out _).mono ?_; rintro e w' ⟨rfl, hg⟩; obtain ⟨x2, rfl⟩ := hg.later; clear hg))
    refine bodyPost_ret (v := .tuple #[.slice none 0 0, .int .i64 1]) (by simp (maxDischargeDepth := 6) [results, Tryz.results9, go_sem, *]) rfl ?_
    exact GiveFW.no w GG
  | true =>
    rw [hb] at C2
    have hno : ¬ (rightF N E ≠ 0 ∨ L.length ≠ E.length ∨ rrB a b = false) := by rw [hr, hb]; simp; omega
    have e1 : wfR N E L a b = wtsL E L a b := by unfold wfR; rw [if_neg hno]
    have e2 : wfF N E L a b = 0 := by unfold wfF; rw [if_neg hno]
    rw [e1, e2]
    unfold GiveFW
    rw [wtsL_len, hEl]
    have hw5 := (right_in hr).2.2.2.2
    have CU := hide (fun (X : World) (i : Nat) => show Calls Tryz.prog 22 #[.int .u64 (gn L i : Int), .agg #[.int .u64 a, .int .u64 b], .int .u64 17592186044416] X fun e w' => e = .returned (.int .u64 (upV (gn L i) a b maxPen : Int)) ∧ Grows X w' from ratioUp (gn L i) a b maxPen (hL i) (by decide) X)
    have CC := hide (fun (X : World) (x u : Nat) => show Calls Tryz.prog 21 #[.int .u64 ((x : Int) + (u : Int)), .int .u64 17592186044416] X fun e w' => e = .returned (.int .u64 ((min (x + u) maxPen : Nat) : Int)) ∧ Grows X w' from by
      have hq := numCapU ((x : Int) + (u : Int)) 17592186044416 X
      rw [wt_cast] at hq
      exact hq)
    have HU := hide (fun i => upV_le (gn L i) a b maxPen)
    have HT := hide (fun k (hk : k < m) => wtsL_take E L a b k (by omega))
    have HW := hide (fun k (hk : k < m) => show (ge E k).w = ((ge E k).w.toNat : Int) ∧ (ge E k).w.toNat ≤ 4294967296 from by have := hw5 k (by omega); omega)
    have HWI := hide (fun k => show wtI E L a b k = min ((ge E k).w.toNat + upV (gn L k) a b maxPen) maxPen from rfl)
    have HF := hide (show (wtsL E L a b).take m = wtsL E L a b from List.take_of_length_le (by rw [wtsL_len]; omega))
    obtain ⟨M, hM⟩ : ∃ M, M = wtsL E L a b := ⟨_, rfl⟩
    rw [← hM] at HT HF ⊢
    obtain ⟨wt, hwt⟩ : ∃ wt, wt = wtI E L a b := ⟨_, rfl⟩
    rw [← hwt] at HT HWI
    have HG := hide h
    have HR := hide h2
    clear h h2 hr hb hno e1 e2 hEl hLl hw5 hM hwt hL
    go_enter Tryz.func9, Tryz.ntmps9
    go_upto_region 1 with fail
    obtain ⟨w0, hw0⟩ : ∃ W, W = (w.alloc (.cells #[.int .i64 N, .slice A m c] 24)).alloc (.cells #[.int .u64 a, .int .u64 b] 28) := ⟨_, rfl⟩
    have hg0 : Grows w w0 := by rw [hw0]; exact ((Grows.refl _).new _).new _
    have a3 : Arr w0 w.heap.size 24 [.int .i64 N, .slice A m c] := by rw [hw0]; exact (Arr.make w _ _).grow ((Grows.refl _).new _)
    have a5 : Arr w0 (w.heap.size + 1) 28 [.int .u64 a, .int .u64 b] := by
      rw [hw0]
      have h := Arr.make (w.alloc (.cells #[.int .i64 N, .slice A m c] 24)) [.int .u64 a, .int .u64 b] 28
      have e : (w.alloc (.cells #[.int .i64 N, .slice A m c] 24)).heap.size = w.heap.size + 1 := by simp
      rwa [e] at h
    rw [← hw0]
    clear hw0
    have hsw := hg0.size
    generalize w.heap.size + 1 = b5 at *
    obtain ⟨b3, hb3⟩ : ∃ b, b = w.heap.size := ⟨_, rfl⟩
    rw [← hb3] at a3 ⊢
    have HB3 := hide hb3
    clear hb3
    have HG := hide (HG.out.grows hg0)
    have HR := hide (HR.out.grows hg0)
    go_wp2_with (first
      | (go_at_call 20; refine (C1.out _ (hg0.trans GG)).mono ?_; rintro e w' ⟨rfl, hg⟩; obtain ⟨x1, rfl⟩ := hg.later; clear hg)
      | (go_at_call 16; refine (C2.out _).mono ?_; rintro e w' ⟨rfl, hg⟩; obtain ⟨x2, rfl⟩ := hg.later; clear hg))
    have hg2 : Grows w0 x2.now := GG
    obtain ⟨y0, hy0⟩ : ∃ y0 : Later w0, x2.now = y0.now := ⟨⟨x2.now, hg2⟩, rfl⟩
    rw [hy0]
    clear hy0 hg2 x2
    go_loopw [6, 29] (fun out tk wr => ∃ (i : Nat) (A8 : Option Addr) (c8 : Nat), i ≤ m ∧ out = .slice A8 i c8 ∧ tk = .int .i64 (i : Int) ∧ ∃ y : Later w0, wr = y.now ∧ Hid (Own y.now w0.heap.size 26 1 A8 i c8 (wv (M.take i)))) (fun _ tk _ => m - (Go.RowKit.intOf tk).toNat)
    case atStart => exact ⟨0, none, 0, by omega, rfl, by go_num, y0, rfl, hide (Own.nil _ _ _ _)⟩
    case round =>
      clear y0
      obtain ⟨i, A8, c8, hi, rfl, rfl, y, rfl, HO⟩ := hrel
      by_cases hlt : i < m
      · obtain ⟨bE, oE, rfl, hcE⟩ := HG.out.edgesH (by omega)
        obtain ⟨k1, k2, k3⟩ := hcE i hlt
        clear hcE
        obtain ⟨bW, off, rfl, hcW⟩ := HR.out.natsF (by omega)
        have kW := hcW i hlt
        clear hcW
        have CV := hide (fun (X : World) => CU.out X i)
        have hu := HU.out i
        obtain ⟨hwx, hwl⟩ := HW.out i hlt
        have HSN := hide (HT.out i hlt)
        have HV := hide (HWI.out i)
        rw [hwx] at k3
        clear hwx
        generalize (ge E i).w.toNat = x at *
        generalize (ge E i).f = ef at *
        generalize (ge E i).t = et at *
        generalize upV (gn L i) a b maxPen = u at *
        generalize gn L i = gl at *
        have hu2 : u ≤ 17592186044416 := hu
        clear hu
        have CC2 := hide (fun (X : World) => CC.out X x u)
        rw [← HV.out] at CC2
        generalize hvv : wt i = v at *
        clear hvv
        go_wp2_with fail
        (refine wp_region_tail1 12 (by kernel_rfl) (by kernel_rfl) ?_; simp only [List.take_succ_cons, List.take_zero, List.drop_succ_cons, List.drop_zero]; (repeat' ((first | refine gLex_val0 rfl (by kernel_rfl) (fun K hK => ?_) | refine gLex_undef rfl rfl rfl (by kernel_rfl) (fun K hK => ?_) | (refine gLex_ask rfl rfl rfl ?_; first | (apply gAsk_yes; kernel_rfl; intro K hK) | ((first | apply gAsk_no1 | apply gAsk_no2); kernel_rfl; intro K hK))) <;> (go_simp; (try (simp only [↓IntWalk.iteOmega]; try go_simp)); (try simp (disch := omega) only [IntWalk.i64_in]); (try simp (disch := omega) only [IntWalk.u64_in]); first | (refine hK _ ?_; clear hK K) | (apply Exists.intro; refine ⟨fun x => ?_, hK _ ?_⟩; (first | (go_at_call 22; exact CV.out _) | (go_at_call 21; exact CC2.out _)); clear hK K)))); refine gLex_prop rfl (by kernel_rfl) rfl (by simp) (One (.int .u64 (v : Int))) (One.lasts _) (fun x => by (go_simp; exact ⟨(Grows.refl _).new _, _, rfl, inferInstance⟩)) ?_; refine gLex_endT1 (by simp) (fun x v hv => ?_); obtain ⟨gnew, rfl, hgnew⟩ := hv; simp only [Act.put, List.setIfInBounds_toArray, List.set_cons_zero, List.set_cons_succ])
        go_wp2_with (at_builtin; refine wp_app1 elemU64.elem rfl _ _ rfl w0 GG i c8 A8 _ rfl (HO.out.grows (show Grows y.now _ from GG)) _ _ (.int .u64 (v : Int)) rfl hgnew rfl (by omega) ?_; intro A9 c9 y9 hown9; have HO9 := hide hown9; clear hown9)
        go_roundw
        case measure => simp [Go.RowKit.intOf]; omega
        case rel => exact ⟨i + 1, A9, c9, by omega, rfl, by go_num, y9, rfl, hide (by rw [HSN.out, wv_snocF]; exact HO9.out)⟩
      · obtain rfl : i = m := by omega
        go_wp2_with fail
        refine bodyPost_ret (v := .tuple #[.slice A8 i c8, .int .i64 0]) (by simp (maxDischargeDepth := 6) [results, Tryz.results9, go_sem, *]) rfl ?_
        have h5 := HO.out.base (B' := w.heap.size) hsw
        rw [HF.out] at h5
        exact ⟨A8, c8, rfl, h5, hg0.trans y.grows⟩
end Go.Proofs.YtkfobolbilhjbaaGreat

namespace Go.Proofs.YtkfobolbilhjbaaGreat
open Go Go.RowKit
attribute [local go_sem] Oper.semAt_some
set_option maxRecDepth 20000 in
set_option maxHeartbeats 4000000 in
theorem r47Weights (N : Int) (A : Option Addr) (n c : Nat) (E : List Edg) (B : Option Addr) (m d : Nat) (L : List Nat) (a b : Int) (w : World) (h : Rd w A 3 n (esCells E)) (hn : n ≤ 1000000) (h2 : Rd w B 1 m (wv L)) (hm : m ≤ 1000000) (hL : ∀ i, gn L i < 18446744073709551616) (ua : U64 a) :
    Calls Tryz.prog 10 #[.agg #[.int .i64 N, .slice A n c], .slice B m d, .agg #[.int .u64 a, .int .u64 b]] w (GiveFW w (wfR N E L a b) (wfF N E L a b)) := by
  have hEl : E.length = n := h.elen
  have hLl : L.length = m := h2.wlen
  have C1 := hide (fun (X : World) (g : Grows w X) => r5Right N A n c E X (h.grows g) hn)
  have C2 := hide (fun (X : World) => rRight a b X ua)
  by_cases hr : rightF N E = 0
  rotate_left
  · have e1 : wfR N E L a b = [] := by unfold wfR; rw [if_pos (.inl hr)]
    have e2 : wfF N E L a b = 1 := by unfold wfF; rw [if_pos (.inl hr)]
    have hrb : (rightF N E != 0) = true := by simpa using hr
    rw [e1, e2]
    generalize rightF N E = rf at *
    clear h h2 hr e1 e2 hEl hLl
    go_enter Tryz.func10, Tryz.ntmps10
    go_wp2_with (go_at_call 23; refine (C1.out _ GG).mono ?_; rintro e w' ⟨rfl, hg⟩; obtain ⟨x1, rfl⟩ := hg.later; clear hg)
    refine bodyPost_ret (v := .tuple #[.slice none 0 0, .int .i64 1]) (by simp (maxDischargeDepth := 6) [results, Tryz.results10, go_sem, *]) rfl ?_
    exact GiveFW.no w GG
  rw [hr] at C1
  by_cases hmn : m = n
  rotate_left
  · have e1 : wfR N E L a b = [] := by unfold wfR; rw [if_pos (.inr (.inl (by omega)))]
    have e2 : wfF N E L a b = 1 := by unfold wfF; rw [if_pos (.inr (.inl (by omega)))]
    have hmb : ((m : Int) != (n : Int)) = true := by simpa using (show ¬ (m : Int) = (n : Int) by omega)
    rw [e1, e2]
    clear h h2 hr e1 e2 hEl hLl hmn
    go_enter Tryz.func10, Tryz.ntmps10
    go_wp2_with (go_at_call 23; refine (C1.out _ GG).mono ?_; rintro e w' ⟨rfl, hg⟩; obtain ⟨x1, rfl⟩ := hg.later; clear hg)
    refine bodyPost_ret (v := .tuple #[.slice none 0 0, .int .i64 1]) (by simp (maxDischargeDepth := 6) [results, Tryz.results10, go_sem, *]) rfl ?_
    exact GiveFW.no w GG
  subst hmn
  cases hb : rrB a b with
  | false =>
    have e1 : wfR N E L a b = [] := by unfold wfR; rw [if_pos (.inr (.inr hb))]
    have e2 : wfF N E L a b = 1 := by unfold wfF; rw [if_pos (.inr (.inr hb))]
    rw [hb] at C2
    rw [e1, e2]
    clear h h2 hr e1 e2 hEl hLl hb
    go_enter Tryz.func10, Tryz.ntmps10
    go_wp2_with (first
      | (go_at_call 23; refine (C1.out _ GG).mono ?_; rintro e w' ⟨rfl, hg⟩; obtain ⟨x1, rfl⟩ := hg.later; clear hg)
      | (go_at_call 18; refine (C2.out _).mono ?_; rintro e w' ⟨rfl, hg⟩; obtain ⟨x2, rfl⟩ := hg.later; clear hg))
    refine bodyPost_ret (v := .tuple #[.slice none 0 0, .int .i64 1]) (by simp (maxDischargeDepth := 6) [results, Tryz.results10, go_sem, *]) rfl ?_
    exact GiveFW.no w GG
  | true =>
    rw [hb] at C2
    have hno : ¬ (rightF N E ≠ 0 ∨ L.length ≠ E.length ∨ rrB a b = false) := by rw [hr, hb]; simp; omega
    have e1 : wfR N E L a b = wtsL E L a b := by unfold wfR; rw [if_neg hno]
    have e2 : wfF N E L a b = 0 := by unfold wfF; rw [if_neg hno]
    rw [e1, e2]
    unfold GiveFW
    rw [wtsL_len, hEl]
    have hw5 := (right_in hr).2.2.2.2
    have CU := hide (fun (X : World) (i : Nat) => show Calls Tryz.prog 24 #[.int .u64 (gn L i : Int), .agg #[.int .u64 a, .int .u64 b], .int .u64 17592186044416] X fun e w' => e = .returned (.int .u64 (upV (gn L i) a b maxPen : Int)) ∧ Grows X w' from rUp (gn L i) a b maxPen (hL i) (by decide) ua X)
    have HU := hide (fun i => upV_le (gn L i) a b maxPen)
    have HT := hide (fun k (hk : k < m) => wtsL_take E L a b k (by omega))
    have HW := hide (fun k (hk : k < m) => show (ge E k).w = ((ge E k).w.toNat : Int) ∧ (ge E k).w.toNat ≤ 4294967296 from by have := hw5 k (by omega); omega)
    have HWI := hide (fun k => show wtI E L a b k = min ((ge E k).w.toNat + upV (gn L k) a b maxPen) maxPen from rfl)
    have HF := hide (show (wtsL E L a b).take m = wtsL E L a b from List.take_of_length_le (by rw [wtsL_len]; omega))
    obtain ⟨M, hM⟩ : ∃ M, M = wtsL E L a b := ⟨_, rfl⟩
    rw [← hM] at HT HF ⊢
    obtain ⟨wt, hwt⟩ : ∃ wt, wt = wtI E L a b := ⟨_, rfl⟩
    rw [← hwt] at HT HWI
    have HG := hide h
    have HR := hide h2
    clear h h2 hr hb hno e1 e2 hEl hLl hw5 hM hwt hL
    go_enter Tryz.func10, Tryz.ntmps10
    go_upto_region 1 with fail
    obtain ⟨w0, hw0⟩ : ∃ W, W = (w.alloc (.cells #[.int .i64 N, .slice A m c] 24)).alloc (.cells #[.int .u64 a, .int .u64 b] 28) := ⟨_, rfl⟩
    have hg0 : Grows w w0 := by rw [hw0]; exact ((Grows.refl _).new _).new _
    have a3 : Arr w0 w.heap.size 24 [.int .i64 N, .slice A m c] := by rw [hw0]; exact (Arr.make w _ _).grow ((Grows.refl _).new _)
    have a5 : Arr w0 (w.heap.size + 1) 28 [.int .u64 a, .int .u64 b] := by
      rw [hw0]
      have h := Arr.make (w.alloc (.cells #[.int .i64 N, .slice A m c] 24)) [.int .u64 a, .int .u64 b] 28
      have e : (w.alloc (.cells #[.int .i64 N, .slice A m c] 24)).heap.size = w.heap.size + 1 := by simp
      rwa [e] at h
    rw [← hw0]
    clear hw0
    have hsw := hg0.size
    generalize w.heap.size + 1 = b5 at *
    obtain ⟨b3, hb3⟩ : ∃ b, b = w.heap.size := ⟨_, rfl⟩
    rw [← hb3] at a3 ⊢
    have HB3 := hide hb3
    clear hb3
    have HG := hide (HG.out.grows hg0)
    have HR := hide (HR.out.grows hg0)
    go_wp2_with (first
      | (go_at_call 23; refine (C1.out _ (hg0.trans GG)).mono ?_; rintro e w' ⟨rfl, hg⟩; obtain ⟨x1, rfl⟩ := hg.later; clear hg)
      | (go_at_call 18; refine (C2.out _).mono ?_; rintro e w' ⟨rfl, hg⟩; obtain ⟨x2, rfl⟩ := hg.later; clear hg))
    have hg2 : Grows w0 x2.now := GG
    obtain ⟨y0, hy0⟩ : ∃ y0 : Later w0, x2.now = y0.now := ⟨⟨x2.now, hg2⟩, rfl⟩
    rw [hy0]
    clear hy0 hg2 x2
    go_loopw [8, 9] (fun out tk wr => ∃ (i : Nat) (A8 : Option Addr) (c8 : Nat), i ≤ m ∧ out = .slice A8 i c8 ∧ tk = .int .i64 (i : Int) ∧ ∃ y : Later w0, wr = y.now ∧ Hid (Own y.now w0.heap.size 26 1 A8 i c8 (wv (M.take i)))) (fun _ tk _ => m - (Go.RowKit.intOf tk).toNat)
    case atStart => exact ⟨0, none, 0, by omega, rfl, by go_num, y0, rfl, hide (Own.nil _ _ _ _)⟩
    case round =>
      clear y0
      obtain ⟨i, A8, c8, hi, rfl, rfl, y, rfl, HO⟩ := hrel
      by_cases hlt : i < m
      · obtain ⟨bE, oE, rfl, hcE⟩ := HG.out.edgesH (by omega)
        obtain ⟨k1, k2, k3⟩ := hcE i hlt
        clear hcE
        obtain ⟨bW, off, rfl, hcW⟩ := HR.out.natsF (by omega)
        have kW := hcW i hlt
        clear hcW
        have CV := hide (fun (X : World) => CU.out X i)
        have hu := HU.out i
        obtain ⟨hwx, hwl⟩ := HW.out i hlt
        have HSN := hide (HT.out i hlt)
        have HV := hide (HWI.out i)
        rw [hwx] at k3
        clear hwx
        generalize (ge E i).w.toNat = xw at *
        generalize (ge E i).f = ef at *
        generalize (ge E i).t = et at *
        generalize upV (gn L i) a b maxPen = u at *
        generalize gn L i = gl at *
        have hu2 : u ≤ 17592186044416 := hu
        clear hu
        have HC := hide (show min ((xw : Int) + (u : Int)) 17592186044416 = (wt i : Int) by rw [HV.out]; exact wt_cast xw u)
        generalize hvv : wt i = v at *
        clear hvv
        go_wp2_with fail
        (refine wp_region_tail1 16 (by kernel_rfl) (by kernel_rfl) ?_; simp only [List.take_succ_cons, List.take_zero, List.drop_succ_cons, List.drop_zero]; (repeat' ((first | refine gLex_val0 rfl (by kernel_rfl) (fun K hK => ?_) | refine gLex_undef rfl rfl rfl (by kernel_rfl) (fun K hK => ?_) | (refine gLex_ask rfl rfl rfl ?_; first | (apply gAsk_yes; kernel_rfl; intro K hK) | ((first | apply gAsk_no1 | apply gAsk_no2); kernel_rfl; intro K hK))) <;> (go_simp; (try (simp only [↓IntWalk.iteOmega]; try go_simp)); (try simp (disch := omega) only [IntWalk.i64_in]); (try simp (disch := omega) only [IntWalk.u64_in]); first | (refine hK _ ?_; clear hK K) | (apply Exists.intro; refine ⟨fun x => ?_, hK _ ?_⟩; (first | (go_at_call 24; exact CV.out _)); clear hK K)))); refine gLex_prop rfl (by kernel_rfl) rfl (by simp) (One (.int .u64 (min ((xw : Int) + (u : Int)) 17592186044416))) (One.lasts _) (fun x => by (go_simp; exact ⟨(Grows.refl _).new _, _, rfl, inferInstance⟩)) ?_; refine gLex_endT1 (by simp) (fun x v hv => ?_); obtain ⟨gnew, rfl, hgnew⟩ := hv; simp only [Act.put, List.setIfInBounds_toArray, List.set_cons_zero, List.set_cons_succ])
        go_wp2_with (at_builtin; refine wp_app1 elemU64.elem rfl _ _ rfl w0 GG i c8 A8 _ rfl (HO.out.grows (show Grows y.now _ from GG)) _ _ (.int .u64 (min ((xw : Int) + (u : Int)) 17592186044416)) rfl hgnew rfl (by omega) ?_; intro A9 c9 y9 hown9; have HO9 := hide hown9; clear hown9)
        go_roundw
        case measure => simp [Go.RowKit.intOf]; omega
        case rel => exact ⟨i + 1, A9, c9, by omega, rfl, by go_num, y9, rfl, hide (by rw [HSN.out, wv_snocF, ← HC.out]; exact HO9.out)⟩
      · obtain rfl : i = m := by omega
        go_wp2_with fail
        refine bodyPost_ret (v := .tuple #[.slice A8 i c8, .int .i64 0]) (by simp (maxDischargeDepth := 6) [results, Tryz.results10, go_sem, *]) rfl ?_
        have h5 := HO.out.base (B' := w.heap.size) hsw
        rw [HF.out] at h5
        exact ⟨A8, c8, rfl, h5, hg0.trans y.grows⟩
end Go.Proofs.YtkfobolbilhjbaaGreat

