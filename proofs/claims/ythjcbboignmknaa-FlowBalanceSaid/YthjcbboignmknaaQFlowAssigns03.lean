/- The law FlowAssigns: for every input it returns true, and each argument reads as before. No condition. -/
import Derived.Test.YthjcbboignmknaaQFlowAssigns00
import Derived.Test.YthjcbboignmknaaQFlowAssigns01
import Derived.Test.YthjcbboignmknaaQFlowAssigns02
import Derived.Test.YthjcbboignmknaaQCanonAll15
/- Contract: what demands do, by the answer. -/
namespace Go.Proofs.Ythjcbboignmknaa
open Go Go.RowKit
/-- Between two demands. -/
def AsgJ (w : World) (b3 b5 b6 b10 g : Nat) (G O : List Value) (n : Nat) (L : List Int) (lost : Int) (W : World) : Prop :=
  (∃ y : Later w, W = y.now) ∧ Arr W b3 24 G ∧ Arr W b5 46 O ∧ Arr W b6 73 [.slice none 0 0, .int .u64 0] ∧ Arr W b10 73 [.slice (some ⟨g, 0, none⟩) n n, .int .u64 lost] ∧ Arr W g 37 (uv L)
theorem AsgJ.grow {w W W' : World} {b3 b5 b6 b10 g n : Nat} {G O : List Value} {L : List Int} {lost : Int} (h : AsgJ w b3 b5 b6 b10 g G O n L lost W) (hg : Grows W W') : AsgJ w b3 b5 b6 b10 g G O n L lost W' := by
  obtain ⟨⟨y, rfl⟩, h1, h2, h3, h4, h5⟩ := h
  exact ⟨⟨⟨W', y.grows.trans hg⟩, rfl⟩, h1.grow hg, h2.grow hg, h3.grow hg, h4.grow hg, h5.grow hg⟩
theorem AsgJ.put {w W : World} {b3 b5 b6 b10 g n : Nat} {G O : List Value} {L : List Int} {lost : Int} (h : AsgJ w b3 b5 b6 b10 g G O n L lost W) (hg : w.heap.size ≤ g) (wt : Int) (e : Nat) : AsgJ w b3 b5 b6 b10 g G O n (addOne wt L e) lost (W.setCell ⟨g, e, none⟩ (.int .u64 (IntKind.u64.wrap (gi L e + wt)))) := by
  obtain ⟨⟨y, rfl⟩, h1, h2, h3, h4, h5⟩ := h
  have n1 := h1.ne h5 (by decide)
  have n2 := h2.ne h5 (by decide)
  have n3 := h3.ne h5 (by decide)
  have n4 := h4.ne h5 (by decide)
  refine ⟨⟨⟨_, y.grows.set (p := ⟨g, e, none⟩) hg _⟩, rfl⟩, h1.other (p := ⟨g, e, none⟩) (Ne.symm n1) _, h2.other (p := ⟨g, e, none⟩) (Ne.symm n2) _, h3.other (p := ⟨g, e, none⟩) (Ne.symm n3) _, h4.other (p := ⟨g, e, none⟩) (Ne.symm n4) _, ?_⟩
  rw [uv_one]
  exact h5.set e _
theorem AsgJ.lose {w W : World} {b3 b5 b6 b10 g n : Nat} {G O : List Value} {L : List Int} {lost : Int} (h : AsgJ w b3 b5 b6 b10 g G O n L lost W) (hg : w.heap.size ≤ b10) (h36 : b10 ≠ b6) (x : Int) : AsgJ w b3 b5 b6 b10 g G O n L x (W.setCell ⟨b10, 1, none⟩ (.int .u64 x)) := by
  obtain ⟨⟨y, rfl⟩, h1, h2, h3, h4, h5⟩ := h
  have n1 := h1.ne h4 (by decide)
  have n2 := h2.ne h4 (by decide)
  have n4 := h4.ne h5 (by decide)
  exact ⟨⟨⟨_, y.grows.set (p := ⟨b10, 1, none⟩) hg _⟩, rfl⟩, h1.other (p := ⟨b10, 1, none⟩) (Ne.symm n1) _, h2.other (p := ⟨b10, 1, none⟩) (Ne.symm n2) _, h3.other (p := ⟨b10, 1, none⟩) h36 _, h4.set 1 _, h5.other (p := ⟨b10, 1, none⟩) n4 _⟩
/-- A route, wherever it lies. -/
def RteQ (n f : Nat) (xs : List Value) : Pr := fun u w => ∃ A c, u = .agg #[.slice A n c, .int .u64 (f : Int)] ∧ Own w 0 3 1 A n c xs
set_option maxRecDepth 40000 in
set_option maxHeartbeats 16000000 in
theorem r47Assign (N : Int) (A : Option Addr) (c : Nat) (E : List Edg) (B : Option Addr) (d : Nat) (D : List Edg) (o : DOpt) (An Ae Aw : Option Addr) (cn ce cw : Nat) (P : Ways) (w : World) (h : Rd w A 3 E.length (esCells E)) (hD : Rd w B 3 D.length (esCells D)) (h2 : Rd w An 1 o.nn.length (o.nn.map (.int .i64))) (h3 : Rd w Ae 1 o.ne.length (o.ne.map (.int .i64))) (h4 : Rd w Aw 1 o.W.length (wv o.W))
    (hn : E.length ≤ 1000000) (hn3 : o.W.length ≤ 1000000) (hd : D.length ≤ 1000000) (hP : WaysOf E o N D P) :
    Calls Try.prog 40 #[.agg #[.int .i64 N, .slice A E.length c], .slice B D.length d, oVal o.back (.slice An o.nn.length cn) (.slice Ae o.ne.length ce) Aw o.W.length cw o.most] w (AsgP w (asgR N E D o P).1 (asgR N E D o P).2.1 (asgR N E D o P).2.2) := by
  have C1 := hide (fun (W : World) (g : Grows w W) => r47Right N A c E B d D W (h.grows g) (hD.grows g) hn hd)
  have C2 := hide (fun (W : World) (g : Grows w W) => show Calls Try.prog 25 #[.agg #[.int .i64 N, .slice A E.length c], .int .i64 0, .agg #[.bool o.back, .slice An o.nn.length cn, .slice Ae o.ne.length ce, .slice Aw o.W.length cw, .int .u64 (o.most : Int)]] W fun e w' => e = .returned (.int .i64 (dcF N 0 E o.W)) ∧ Grows W w' from r14Check N 0 A E.length c E o.back (.slice An o.nn.length cn) (.slice Ae o.ne.length ce) Aw o.W.length cw o.most o.W W (h.grows g) (h4.grows g) hn hn3)
  unfold oVal
  by_cases hf : fRightF N E D = 0
  · by_cases hc : dcF N 0 E o.W = 0
    · have e1 : asgR N E D o P = ((asgS D P E.length D.length).1, (asgS D P E.length D.length).2, 0) := by unfold asgR; rw [if_neg (by omega), if_neg (by omega)]
      rw [e1]
      rw [hf] at C1
      rw [hc] at C2
      have HD := hide hD
      have HP := hide hP
      have K1 := hide (fun (k : Nat) (hk : k < D.length) (W1 : World) (g : Grows w W1) => show Calls Try.prog 85 #[.agg #[.int .i64 N, .slice A E.length c], .int .i64 (ge D k).f, .int .i64 (ge D k).t, .agg #[.bool o.back, .slice An o.nn.length cn, .slice Ae o.ne.length ce, .slice Aw o.W.length cw, .int .u64 (o.most : Int)]] W1 fun e w' =>
          ∃ A' c', e = .returned (.tuple #[.agg #[.slice A' (P k).1.length c', .int .u64 ((P k).2.1 : Int)], .int .i64 (P k).2.2]) ∧ Own w' W1.heap.size 3 1 A' (P k).1.length c' (nv (P k).1) ∧ Grows W1 w' from
        r15Path N _ _ A c E o An Ae Aw cn ce cw _ _ _ W1 (h.grows g) (h2.grows g) (h3.grows g) (h4.grows g) hn hn3 (hP k hk))
      clear e1 h h2 h3 h4 hD hP hf hc
      have hm : E.length ≤ 1000000 := hn
      generalize o.most = mo at *
      generalize o.back = back at *
      go_enter Try.func40, Try.ntmps40
      go_wp2_with fail
      refine (C1.out _ (by repeat (first | exact Grows.refl _ | refine Grows.now ?_ _ | refine Grows.new ?_ _ | refine Grows.drewN ?_ _ | refine Grows.drew ?_ | assumption | (refine Grows.set ?_ (by first | omega | (simp; done) | (simp; omega)) _)))).mono ?_; rintro e w' ⟨rfl, hg⟩; obtain ⟨x1, rfl⟩ := Grows.later hg; clear hg
      go_wp2_with fail
      refine (C2.out _ (by repeat (first | exact Grows.refl _ | refine Grows.now ?_ _ | refine Grows.new ?_ _ | refine Grows.drewN ?_ _ | refine Grows.drew ?_ | assumption | (refine Grows.set ?_ (by first | omega | (simp; done) | (simp; omega)) _)))).mono ?_; rintro e W0 ⟨rfl, hg⟩
      have a3 : Arr W0 w.heap.size 24 [.int .i64 N, .slice A E.length c] := Arr.grow ⟨by simp [heap_push, Array.getElem_push, Array.getElem?_push, eq_add2]⟩ (x1.grows.trans hg)
      have a5 : Arr W0 (w.heap.size + 1) 46 [.bool back, .slice An o.nn.length cn, .slice Ae o.ne.length ce, .slice Aw o.W.length cw, .int .u64 (mo : Int)] := Arr.grow ⟨by simp [heap_push, Array.getElem_push, Array.getElem?_push, eq_add2]⟩ (x1.grows.trans hg)
      have a6 : Arr W0 (w.heap.size + 1 + 1) 73 [.slice none 0 0, .int .u64 0] := Arr.grow ⟨by simp [heap_push, Array.getElem_push, Array.getElem?_push, eq_add2]⟩ (x1.grows.trans hg)
      have hgw : Grows w W0 := Grows.trans (by show Grows w x1.now; exact (by repeat (first | exact Grows.refl _ | refine Grows.now ?_ _ | refine Grows.new ?_ _ | refine Grows.drewN ?_ _ | refine Grows.drew ?_ | assumption | (refine Grows.set ?_ (by first | omega | (simp; done) | (simp; omega)) _)))) hg
      clear hg C1 C2
      obtain ⟨lo, hlo⟩ : ∃ lo, w.heap.size = lo := ⟨_, rfl⟩
      have hl3 : w.heap.size ≤ lo := by omega
      have hl6 : lo < lo + 1 ∧ lo + 1 < lo + 1 + 1 := by omega
      rw [hlo] at a3 a5 a6 ⊢
      clear hlo
      generalize lo + 1 + 1 = b6 at *
      generalize lo + 1 = b5 at *
      obtain ⟨y0, rfl⟩ := hgw.later
      clear hgw
      have mk := run_makeU64s E.length (by omega)
      have hb6 := a6.ty.lt
      go_upto_region 9 with fail
      have hgr := y0.grows.size
      have HI0 : Hid (AsgJ w lo b5 b6 (y0.now.heap.size + 1) y0.now.heap.size [.int .i64 N, .slice A E.length c] [.bool back, .slice An o.nn.length cn, .slice Ae o.ne.length ce, .slice Aw o.W.length cw, .int .u64 (mo : Int)] E.length (asgS D P E.length 0).1 (asgS D P E.length 0).2
          ((y0.now.alloc (.cells (Array.replicate E.length (Value.int .u64 0)) 37)).alloc (.cells #[.slice (some ⟨y0.now.heap.size, 0, none⟩) E.length E.length, .int .u64 0] 73))) := by
        have gg : Grows y0.now ((y0.now.alloc (.cells (Array.replicate E.length (Value.int .u64 0)) 37)).alloc (.cells #[.slice (some ⟨y0.now.heap.size, 0, none⟩) E.length E.length, .int .u64 0] 73)) := ((Grows.refl _).new _).new _
        refine ⟨⟨⟨_, y0.grows.trans gg⟩, rfl⟩, a3.grow gg, a5.grow gg, a6.grow gg, ?_, ?_⟩
        · have := Arr.make (y0.now.alloc (.cells (Array.replicate E.length (Value.int .u64 0)) 37)) [.slice (some ⟨y0.now.heap.size, 0, none⟩) E.length E.length, .int .u64 0] 73
          rw [show (y0.now.alloc (.cells (Array.replicate E.length (Value.int .u64 0)) 37)).heap.size = y0.now.heap.size + 1 by simp] at this
          exact this
        · have := (Arr.make y0.now (List.replicate E.length (Value.int .u64 0)) 37).grow ((Grows.refl _).new (.cells #[.slice (some ⟨y0.now.heap.size, 0, none⟩) E.length E.length, .int .u64 0] 73))
          simpa [uv, asgS] using this
      clear a3 a5 a6 mk
      have hgb : b6 < y0.now.heap.size := hb6
      generalize hgg : y0.now.heap.size = g at *
      clear hgg hb6
      have hb10 : g < g + 1 := by omega
      generalize g + 1 = b10 at *
      go_loopw [11] (fun i wr => ∃ k : Nat, k ≤ D.length ∧ i = .int .i64 (k : Int) ∧ AsgJ w lo b5 b6 b10 g [.int .i64 N, .slice A E.length c] [.bool back, .slice An o.nn.length cn, .slice Ae o.ne.length ce, .slice Aw o.W.length cw, .int .u64 (mo : Int)] E.length (asgS D P E.length k).1 (asgS D P E.length k).2 wr) (fun i _ => D.length - (Go.RowKit.intOf i).toNat)
      case atStart => exact ⟨0, by omega, by go_num, HI0.out⟩
      case round =>
        clear HI0
        obtain ⟨k, hk, rfl, hJ⟩ := hrel
        have HJ := hide hJ
        obtain ⟨⟨y, rfl⟩, a3, a5, a6, a10, ag⟩ := id hJ
        by_cases hlt : k < D.length
        · obtain ⟨bD, oD, rfl, hcc⟩ := HD.out.edgesH (by omega)
          obtain ⟨z1, z2, z3⟩ := hcc k hlt
          have HLE := hide (asgS_len D P E.length k)
          have hlk : decide ((k : Int) < (D.length : Int)) = true := decide_eq_true (by omega)
          clear hcc
          go_upto_region 11 with fail
          refine wp_region_box (bxS 16 17 14 12 54 53 [.slice none 0 0, .int .u64 0]) (by kernel_rfl) (by kernel_rfl) (by kernel_rfl) (fun oa os h1 h2 => by injection h1 with h1; injection h2 with h2; subst h1 h2; exact bxS_runs (by kernel_rfl) rfl rfl) ?_
          (repeat' (refine gLexX_val0 rfl (by kernel_rfl) (by kernel_rfl) (fun K hK => ?_); go_simp; (try (simp only [↓IntWalk.iteOmega]; try go_simp)); (try simp (disch := omega) only [IntWalk.i64_in]); (try simp (disch := omega) only [IntWalk.u64_in]); first | (refine hK _ ?_; clear hK K) | (apply Exists.intro; refine ⟨fun x => ?_, hK _ ?_⟩; (first | fail); clear hK K)))
          refine gLexX_prop rfl (by kernel_rfl) (by kernel_rfl) rfl (by simp) (PairQ (RteQ (P k).1.length (P k).2.1 (nv (P k).1)) (.int .i64 (P k).2.2)) (fun x S hS => ?_) ?_
          · go_simp
            refine (K1.out k hlt _ (by repeat (first | exact Grows.refl _ | refine Grows.now ?_ _ | refine Grows.new ?_ _ | refine Grows.drewN ?_ _ | refine Grows.drew ?_ | assumption | (refine Grows.set ?_ (by first | omega | (simp; done) | (simp; omega)) _)))).mono ?_
            rintro e w' ⟨A8, c8, rfl, ho, hg⟩
            exact ⟨_, rfl, hg, fun w'' ht => ⟨_, rfl, A8, c8, rfl, (ho.noBox (fun k hk => (hS k hk).2) ht).base (Nat.zero_le _)⟩⟩
          refine gLexX_pair (by kernel_rfl) ⟨rfl, rfl, rfl, rfl, rfl, rfl⟩ ⟨rfl, rfl, rfl, rfl, rfl⟩ ⟨rfl, rfl, rfl, rfl, rfl⟩ (by decide) rfl (by decide) rfl (by simp) (by kernel_rfl) (by kernel_rfl) (by kernel_rfl) (by kernel_rfl) (by kernel_rfl) (by kernel_rfl) ?good ?_
          case good =>
            rintro v w1 ⟨A8, c8, rfl, _⟩
            exact ⟨_, rfl, rfl, by simp [Value.oneCell']⟩
          refine gLexX_end (fun v S b12 hb12 => ?_)
          refine AtX.pop rfl (by simp) (fun z1 hz1 => ?_)
          obtain rfl : z1 = _ := hz1
          refine AtX.pop rfl (by simp [Act.put]) (fun z2 _ => ?_)
          refine AtX.pop rfl (by simp [Act.put]) (fun z3 hz3 => ?_)
          obtain rfl : z3 = _ := hz3
          refine AtX.pop rfl (by simp [Act.put]) (fun z4 hz4 => ?_)
          obtain ⟨A', c', rfl, ho⟩ := hz4
          refine AtX.pop rfl (by simp [Act.put]) (fun z5 _ => ?_)
          refine AtX.pop rfl (by simp [Act.put]) (fun z6 _ => ?_)
          refine AtX.base (by simp [Act.put, bxS]; rfl) (by simp [Act.put, bxS]; rfl) (fun e9 ha12 => ?_)
          subst e9
          simp only [Act.put, List.setIfInBounds_toArray, List.set_cons_zero, List.set_cons_succ]
          have a12 : Arr v.now b12 53 [.slice A' (P k).1.length c', .int .u64 ((P k).2.1 : Int)] := ha12
          clear ha12
          · skip
            have HJ := hide (HJ.out.grow v.grows)
            have HO := hide ho
            replace a3 := a3.grow v.grows
            replace a5 := a5.grow v.grows
            replace a6 := a6.grow v.grows
            replace a10 := a10.grow v.grows
            replace ag := ag.grow v.grows
            have hyg := y.grows.trans v.grows
            clear ho
            clear hJ
            generalize v.now = W2 at *
            obtain ⟨y1, rfl⟩ := hyg.later
            clear hyg
            by_cases hr : (P k).2.2 = 0
            · have hS1 : asgS D P E.length (k + 1) = (addAt (asgS D P E.length k).1 (ge D k).w (P k).1, (asgS D P E.length k).2) := by rw [asgS, if_pos hr]
              have HS1 := hide hS1
              have hsh : (P k).1.length ≤ 1000000 := by have := (HP.out k hlt).short.1; omega
              have hed := (HP.out k hlt).edges
              have HED := hide hed
              have HNE := hide (ag.own_ne HO.out (by decide))
              have hng : b12 ≠ g := a12.ne ag (by decide)
              have hr9 : ((P k).2.2 == 0) = true := by simp [hr]
              rw [hr]
              clear hS1 hr hr9 K1 hed
              generalize (P k).1 = es at *
              generalize asgS D P E.length k = S at *
              go_wp2_with fail
              go_loopw [14] (fun s wr => ∃ j : Nat, j ≤ es.length ∧ s = .int .i64 (j : Int) ∧ AsgJ w lo b5 b6 b10 g [.int .i64 N, .slice A E.length c] [.bool back, .slice An o.nn.length cn, .slice Ae o.ne.length ce, .slice Aw o.W.length cw, .int .u64 (mo : Int)] E.length (addAt S.1 (ge D k).w (es.take j)) S.2 wr ∧ Arr wr b12 53 [.slice A' es.length c', .int .u64 ((P k).2.1 : Int)] ∧ Rd wr A' 1 es.length (nv es)) (fun s _ => es.length - (Go.RowKit.intOf s).toNat)
              case atStart => exact ⟨0, by omega, by go_num, HJ.out, a12, HO.out.rd⟩
              case round =>
                clear a3 a5 a6 a10 ag a12 HJ HO
                obtain ⟨j, hj, rfl, hJ, a12, hrd⟩ := hrel
                have HJ := hide hJ
                have HRD := hide hrd
                obtain ⟨⟨y2, rfl⟩, a3, a5, a6, a10, ag⟩ := id hJ
                by_cases hjl : j < es.length
                · have hjd : decide ((j : Int) < (es.length : Int)) = true := decide_eq_true (by omega)
                  have hin : gn es j < E.length := HED.out _ (by unfold gn; rw [List.getD_eq_getElem?_getD, List.getElem?_eq_getElem hjl]; exact List.getElem_mem hjl)
                  obtain ⟨bE, oE, rfl, hc⟩ := HRD.out.at_ (by omega)
                  have c1 : Holds y2.now ⟨bE, oE + j, none⟩ (.int .i64 (gn es j : Int)) := ⟨hc j _ (nv_at hjl)⟩
                  have hll : (addAt S.1 (ge D k).w (es.take j)).length = E.length := by rw [addAt_len, HLE.out]
                  have m1 : Mine y2.now ⟨g, gn es j, none⟩ (.int .u64 (gi (addAt S.1 (ge D k).w (es.take j)) (gn es j))) := ag.mine _ (uv_at (by rw [hll]; exact hin))
                  have HSS := hide (addAt_succ S.1 (ge D k).w es j hjl)
                  clear hc hJ hll hrd ag
                  generalize addAt S.1 (ge D k).w (es.take j) = L' at *
                  go_upto_region 17 with fail
                  (refine wp_region_tail1 23 (by kernel_rfl) (by kernel_rfl) ?_; simp only [List.take_succ_cons, List.take_zero, List.drop_succ_cons, List.drop_zero]; (repeat' (first | (refine gLex_val0 rfl (by kernel_rfl) (fun K hK => ?_); (go_simp; (try (simp only [↓IntWalk.iteOmega]; try go_simp)); (try simp (disch := omega) only [IntWalk.i64_in]); (try simp (disch := omega) only [IntWalk.u64_in]); first | (refine hK _ ?_; clear hK K) | (apply Exists.intro; refine ⟨fun x => ?_, hK _ ?_⟩; (first | fail); clear hK K))) | (refine gLex_undef rfl rfl rfl (by kernel_rfl) (fun K hK => ?_); go_simp; refine hK _ ?_; clear hK K) | (refine gLex_ask rfl rfl rfl ?_; first | (apply gAsk_yes; kernel_rfl; intro K hK; (go_simp; (try (simp only [↓IntWalk.iteOmega]; try go_simp)); (try simp (disch := omega) only [IntWalk.i64_in]); (try simp (disch := omega) only [IntWalk.u64_in]); first | (refine hK _ ?_; clear hK K) | (apply Exists.intro; refine ⟨fun x => ?_, hK _ ?_⟩; (first | fail); clear hK K))) | ((first | apply gAsk_no1 | apply gAsk_no2); kernel_rfl; intro K hK; simp [go_sem]; refine hK _ ?_; clear hK K)))))
                  refine gLex_endT (fun y9 => ?_)
                  go_wp2_with fail
                  have HJ9 := hide ((HJ.out.grow y9.grows).put (by omega) (ge D k).w (gn es j))
                  have HR9 := hide ((HRD.out.grows y9.grows).touch ((Touch.refl (fun q => q = g) _).set (p := ⟨g, gn es j, none⟩) (.inl rfl) (.int .u64 (IntKind.u64.wrap (gi L' (gn es j) + (ge D k).w)))) (fun p hp => HNE.out p hp))
                  have a129 := (a12.grow y9.grows).other (p := ⟨g, gn es j, none⟩) (by show g ≠ b12; omega) (.int .u64 (IntKind.u64.wrap (gi L' (gn es j) + (ge D k).w)))
                  go_roundw
                  case measure => simp [Go.RowKit.intOf]; omega
                  case rel =>
                    refine ⟨j + 1, by omega, by go_num, ?_, a129, HR9.out⟩
                    rw [HSS.out]
                    exact HJ9.out
                · have hjd : decide ((j : Int) < (es.length : Int)) = false := decide_eq_false (by omega)
                  have hke : es.take j = es := List.take_of_length_le (by omega)
                  rw [hke] at HJ
                  clear hJ hke hrd ag
                  go_wp2_with fail
                  go_roundw
                  case measure => simp [Go.RowKit.intOf]; omega
                  case rel =>
                    refine ⟨k + 1, by omega, by go_num, ?_⟩
                    rw [HS1.out]
                    exact HJ.out
            · have hS1 : asgS D P E.length (k + 1) = ((asgS D P E.length k).1, IntKind.u64.wrap ((asgS D P E.length k).2 + (ge D k).w)) := by rw [asgS, if_neg hr]
              have HS1 := hide hS1
              have hr9 : ((P k).2.2 == 0) = false := beq_eq_false_iff_ne.2 hr
              clear hS1 hr K1
              generalize asgS D P E.length k = S at *
              go_upto_region 13 with fail
              (refine wp_region_tail1 9 (by kernel_rfl) (by kernel_rfl) ?_; simp only [List.take_succ_cons, List.take_zero, List.drop_succ_cons, List.drop_zero]; (repeat' (first | (refine gLex_val0 rfl (by kernel_rfl) (fun K hK => ?_); (go_simp; (try (simp only [↓IntWalk.iteOmega]; try go_simp)); (try simp (disch := omega) only [IntWalk.i64_in]); (try simp (disch := omega) only [IntWalk.u64_in]); first | (refine hK _ ?_; clear hK K) | (apply Exists.intro; refine ⟨fun x => ?_, hK _ ?_⟩; (first | fail); clear hK K))) | (refine gLex_undef rfl rfl rfl (by kernel_rfl) (fun K hK => ?_); go_simp; refine hK _ ?_; clear hK K) | (refine gLex_ask rfl rfl rfl ?_; first | (apply gAsk_yes; kernel_rfl; intro K hK; (go_simp; (try (simp only [↓IntWalk.iteOmega]; try go_simp)); (try simp (disch := omega) only [IntWalk.i64_in]); (try simp (disch := omega) only [IntWalk.u64_in]); first | (refine hK _ ?_; clear hK K) | (apply Exists.intro; refine ⟨fun x => ?_, hK _ ?_⟩; (first | fail); clear hK K))) | ((first | apply gAsk_no1 | apply gAsk_no2); kernel_rfl; intro K hK; simp [go_sem]; refine hK _ ?_; clear hK K)))))
              refine gLex_endT (fun y9 => ?_)
              go_wp2_with fail
              go_roundw
              case measure => simp [Go.RowKit.intOf]; omega
              case rel =>
                refine ⟨k + 1, by omega, by go_num, ?_⟩
                rw [HS1.out]
                exact (HJ.out.grow y9.grows).lose (by omega) (by omega) _
        · have hkk : k = D.length := by omega
          subst hkk
          have HLE := hide (asgS_len D P E.length D.length)
          have hlk : decide ((D.length : Int) < (D.length : Int)) = false := decide_eq_false (by omega)
          have h56 : b6 ≠ g := by omega
          have HAG := hide ag
          clear ag HJ
          generalize asgS D P E.length D.length = S at *
          go_wp2_with fail
          refine bodyPost_ret (v := .tuple #[.agg #[.slice (some ⟨g, 0, none⟩) E.length E.length, .int .u64 S.2], .int .i64 0]) (by simp (maxDischargeDepth := 6) [results, Try.results40, go_sem, *]) rfl ?_
          have hag := (HAG.out.other (p := ⟨b6, 0, none⟩) (by show b6 ≠ g; omega) (.slice (some ⟨g, 0, none⟩) E.length E.length)).other (p := ⟨b6, 1, none⟩) (by show b6 ≠ g; omega) (.int .u64 S.2)
          refine ⟨some ⟨g, 0, none⟩, E.length, by rw [HLE.out], hag.rd (by rw [uv_len]; omega), fun p hp => (by injection hp with hp; subst hp; show _ ≤ g; omega), (y.grows.set (p := ⟨b6, 0, none⟩) (by show _ ≤ b6; omega) _).set (p := ⟨b6, 1, none⟩) (by show _ ≤ b6; omega) _⟩
    · have e1 : asgR N E D o P = ([], 0, dcF N 0 E o.W) := by unfold asgR; rw [if_neg (by omega), if_pos hc]
      rw [e1]
      rw [hf] at C1
      have hr9 : (dcF N 0 E o.W == 0) = false := beq_eq_false_iff_ne.2 hc
      clear e1 h h2 h3 h4 hD hP hf hc
      generalize dcF N 0 E o.W = r at *
      generalize o.most = mo at *
      generalize o.back = back at *
      go_enter Try.func40, Try.ntmps40
      go_wp2_with fail
      refine (C1.out _ (by repeat (first | exact Grows.refl _ | refine Grows.now ?_ _ | refine Grows.new ?_ _ | refine Grows.drewN ?_ _ | refine Grows.drew ?_ | assumption | (refine Grows.set ?_ (by first | omega | (simp; done) | (simp; omega)) _)))).mono ?_; rintro e w' ⟨rfl, hg⟩; obtain ⟨x1, rfl⟩ := Grows.later hg; clear hg
      go_wp2_with fail
      refine (C2.out _ (by repeat (first | exact Grows.refl _ | refine Grows.now ?_ _ | refine Grows.new ?_ _ | refine Grows.drewN ?_ _ | refine Grows.drew ?_ | assumption | (refine Grows.set ?_ (by first | omega | (simp; done) | (simp; omega)) _)))).mono ?_; rintro e W0 ⟨rfl, hg⟩; obtain ⟨x2, hx2⟩ : ∃ x2 : Later x1.now, W0 = x2.now := hg.later; subst hx2; clear hg
      go_wp2_with fail
      refine bodyPost_ret (v := .tuple #[.agg #[.slice none 0 0, .int .u64 0], .int .i64 r]) (by simp (maxDischargeDepth := 6) [results, Try.results40, go_sem, *]) rfl ?_
      exact ⟨none, 0, rfl, ⟨rfl, fun h => absurd h (by simp)⟩, fun p hp => (by cases hp), (by repeat (first | exact Grows.refl _ | refine Grows.now ?_ _ | refine Grows.new ?_ _ | refine Grows.drewN ?_ _ | refine Grows.drew ?_ | assumption | (refine Grows.set ?_ (by first | omega | (simp; done) | (simp; omega)) _)))⟩
  · have e1 : asgR N E D o P = ([], 0, fRightF N E D) := by unfold asgR; rw [if_pos hf]
    rw [e1]
    have hr9 : (fRightF N E D == 0) = false := beq_eq_false_iff_ne.2 hf
    clear e1 h h2 h3 h4 hD hP hf
    generalize fRightF N E D = r at *
    generalize o.most = mo at *
    generalize o.back = back at *
    go_enter Try.func40, Try.ntmps40
    go_wp2_with fail
    refine (C1.out _ (by repeat (first | exact Grows.refl _ | refine Grows.now ?_ _ | refine Grows.new ?_ _ | refine Grows.drewN ?_ _ | refine Grows.drew ?_ | assumption | (refine Grows.set ?_ (by first | omega | (simp; done) | (simp; omega)) _)))).mono ?_; rintro e w' ⟨rfl, hg⟩; obtain ⟨x1, rfl⟩ := Grows.later hg; clear hg
    go_wp2_with fail
    refine bodyPost_ret (v := .tuple #[.agg #[.slice none 0 0, .int .u64 0], .int .i64 r]) (by simp (maxDischargeDepth := 6) [results, Try.results40, go_sem, *]) rfl ?_
    exact ⟨none, 0, rfl, ⟨rfl, fun h => absurd h (by simp)⟩, fun p hp => (by cases hp), (by repeat (first | exact Grows.refl _ | refine Grows.now ?_ _ | refine Grows.new ?_ _ | refine Grows.drewN ?_ _ | refine Grows.drew ?_ | assumption | (refine Grows.set ?_ (by first | omega | (simp; done) | (simp; omega)) _)))⟩
end Go.Proofs.Ythjcbboignmknaa

/- Regions that draw their order: an operation that reads one value which hangs on the world, and leaves a value that is known; the end where such values are left. And with a box: a call that reads such a value. -/
namespace Go.Proofs.Ythjcbboignmknaa
open Go Go.RowKit
section
variable {P : Program} {w0 : World} {ops : Array Oper} {Q : Act → Env → Prop} {a : Act} {G : Env} {o : Oper} {rest : List Oper}
theorem dep_exec {a' : Act} {t0 : Tmp} {v : Value} (h5 : ∀ cs b, o.op ≠ .select cs b) (ht0 : t0 < a.tmps.size) (hv : a'.tmps[t0]? = some v) (h : ∀ t ∈ o.looksAt ops, t = t0 ∨ a'.tmps[t]? = a.tmps[t]?) : execOp a'.eval o = execOp (a.put (some t0) v).eval o := by
  refine execOp_congr o h5 fun x hx => ?_
  cases x with
  | tmp t =>
    have ht : t ∈ o.looksAt ops := List.mem_append_left _ (List.mem_filterMap.2 ⟨.tmp t, by simpa using hx, rfl⟩)
    have h' : a'.tmps[t]? = (a.put (some t0) v).tmps[t]? := by
      by_cases e : t = t0
      · subst e
        rw [hv]
        simp [Act.put, ht0]
      · rw [(h t ht).resolve_left e]
        simp [Act.put, Array.getElem?_setIfInBounds_ne (Ne.symm e)]
    simp only [Act.eval, Array.getD_eq_getD_getElem?, h']
  | _ => rfl
theorem gLex_depV {t0 : Tmp} {p0 : Pr} (hw : Region.wanted o (yielded ops a.tmps) = true) (hp : depB ops o G t0 = true) (h0 : G t0 = some p0) (ht0 : t0 < a.tmps.size) (v : Value)
    (hr : ∀ (x : Later w0) (u : Value), p0 u x.now → runsTo P (fun u' w' => Grows x.now w' ∧ u' = v) ((execOp (a.put (some t0) u).eval o).run P x.now))
    (h : gLex P ops w0 Q rest (a.put o.dst v) G) : gLex P ops w0 Q (o :: rest) a G := by
  obtain ⟨h1, h2, h3, h4, h5⟩ := dep_spec hp
  refine ⟨.inl v, ⟨h1, h2, .inl ⟨hw, trivial, trivial, fun w hw a' ha' => ?_⟩⟩, ?_⟩
  · have hv := ha' t0 h4
    unfold relAt at hv
    rw [h0] at hv
    obtain ⟨u, hv, hpv⟩ := hv
    rw [dep_exec h5 ht0 hv (fun t ht => (h3 t ht).imp id (fun e => by
      have h6 := ha' t ht
      unfold relAt at h6
      rw [e] at h6
      exact h6))]
    exact hr ⟨w, hw⟩ u hpv
  · have : putG G o.dst (.inl v) = G := by cases o.dst <;> rfl
    rw [this]
    exact h
/-- What is left of the walk at one world. -/
def AtA (Q : Exit → Act → World → Prop) (a : Act) (G : Env) (w' : World) : Prop := ∀ a', Conc G a a' w' → Q .normal a' w'
theorem AtA.pop {Q : Exit → Act → World → Prop} {w' : World} {t : Tmp} {p : Pr} (hG : G t = none) (ht : t < a.tmps.size) (h : ∀ v, p v w' → AtA Q (a.put (some t) v) G w') : AtA Q a (G.upd t p) w' := fun a' hc => by
  obtain ⟨v, hv⟩ := conc_upd hc ht
  rcases hv with ⟨hp, hc2⟩ | hne
  · exact h v hp a' hc2
  · exact absurd hG hne
theorem AtA.base {Q : Exit → Act → World → Prop} {w' : World} (h : Q .normal a w') : AtA Q a Env.no w' := fun a' hc => by rw [conc_no hc]; exact h
theorem gLex_endA {Q : Exit → Act → World → Prop} (h : ∀ x : Later w0, AtA Q a G x.now) : gLex P ops w0 (fun a G => ∀ w', Grows w0 w' → ∀ a', Conc G a a' w' → Q .normal a' w') [] a G := fun w' hw a' hc => h ⟨w', hw⟩ a' hc
end
section
variable {P : Program} {ops : Array Oper} {w0 : World} {B : Bx} {Q : Act → Env → Prop} {a : Act} {G : Env} {o : Oper} {rest : List Oper} {k : Nat}
/-- One call that reads ONE value which hangs on the world, and leaves another one. -/
theorem gLexX_depW {t0 t : Tmp} {p0 : Pr} (hg : o.guard = none) (hp : depB ops o G t0 = true) (hk : (k == B.si || k == B.ia) = false) (h0 : G t0 = some p0) (ht0 : t0 < a.tmps.size) (hd : o.dst = some t) (hlt : t < a.tmps.size)
    (p : Pr) (hr : ∀ (x : Later w0) (S : Nat → Prop) (v : Value), InS w0 x.now S → p0 v x.now → runsTo P (fun u w' => Grows x.now w' ∧ ∀ w'', Touch S w' w'' → p u w'') ((execOp (a.put (some t0) v).eval o).run P x.now))
    (h : gLexX P ops w0 B Q (k + 1) rest a (G.upd t p)) : gLexX P ops w0 B Q k (o :: rest) a G := by
  obtain ⟨h1, h2, h3, h4, h5⟩ := dep_spec hp
  simp only [Bool.or_eq_false_iff, beq_eq_false_iff_ne] at hk
  refine ⟨.inr p, ⟨h1, h2, .inl ⟨by unfold Region.wanted; rw [hg], ⟨t, hd, hlt⟩, fun _ w S hw hS a' ha' => ?_, fun e => absurd e hk.1, fun e => absurd e hk.2⟩⟩, ?_⟩
  · have hv := ha' t0 h4
    unfold relX at hv
    rw [h0] at hv
    obtain ⟨v, hv, hpv⟩ := hv
    rw [dep_exec h5 ht0 hv (fun t ht => (h3 t ht).imp id (fun e => by
      have h6 := ha' t ht
      unfold relX at h6
      rw [e] at h6
      exact h6))]
    exact hr ⟨w, hw⟩ S v hS (hpv w (Touch.refl _ _))
  · rw [hd]
    exact h
end
end Go.Proofs.Ythjcbboignmknaa

/- The law FlowAssigns, walked: by which edges any demands go, and how many nowhere. -/
namespace Go.Proofs.Ythjcbboignmknaa
open Go Go.RowKit
theorem uv_nat {L : List Int} (h : ∀ z ∈ L, 0 ≤ z) : uv L = wv (L.map Int.toNat) := by
  unfold uv wv
  rw [List.map_map]
  refine List.map_congr_left fun x hx => ?_
  have := h x hx
  show Value.int .u64 x = .int .u64 ((x.toNat : Nat) : Int)
  rw [Int.toNat_of_nonneg this]
theorem addAt_nn (n : Int) : ∀ (es : List Nat) (L : List Int), (∀ z ∈ L, 0 ≤ z) → ∀ z ∈ addAt L n es, 0 ≤ z
  | [], L, h => h
  | e :: es, L, h => addAt_nn n es _ (fun z hz => by
      unfold addOne at hz
      rcases List.mem_or_eq_of_mem_set hz with h1 | h1
      · exact h z h1
      · rw [h1]
        unfold IntKind.wrap
        simp [IntKind.bits, IntKind.signed]
        omega)
theorem asgS_nn (D : List Edg) (P : Ways) (m : Nat) : ∀ k, ∀ z ∈ (asgS D P m k).1, 0 ≤ z
  | 0 => fun z hz => by
    have : z = 0 := List.eq_of_mem_replicate hz
    omega
  | k + 1 => by
    unfold asgS
    split
    · exact addAt_nn _ _ _ (asgS_nn D P m k)
    · exact asgS_nn D P m k
theorem asgR_nn (N : Int) (E D : List Edg) (o : DOpt) (P : Ways) : ∀ z ∈ (asgR N E D o P).1, 0 ≤ z := by
  unfold asgR
  split
  · intro z hz; cases hz
  split
  · intro z hz; cases hz
  · exact asgS_nn _ _ _ _
theorem asgR_len (N : Int) (E D : List Edg) (o : DOpt) (P : Ways) : (asgR N E D o P).1.length ≤ E.length := by
  unfold asgR
  split
  · exact Nat.zero_le _
  split
  · exact Nat.zero_le _
  · rw [asgS_len]; exact Nat.le_refl _
/-- A report that came: where its loads lie. -/
def RepQ (lo n : Nat) (L : List Value) (lost : Int) : Pr := fun u w => ∃ A c, u = .agg #[.slice A n c, .int .u64 lost] ∧ Rd w A 1 n L ∧ ∀ p, A = some p → lo ≤ p.block
/-- Demands that came. -/
def DemQ (n : Nat) (D : List Edg) : Pr := fun u w => ∃ A c, u = .slice A n c ∧ Rd w A 3 n (esCells D)
theorem DemQ.lasts (n : Nat) (D : List Edg) : Lasts (DemQ n D) := fun _ _ _ hg ⟨A, c, e, h⟩ => ⟨A, c, e, h.grows hg⟩
theorem Rd.noBox {w w' : World} {A : Option Addr} {size n B : Nat} {xs : List Value} {S : Nat → Prop} (h : Rd w A size n xs) (hA : ∀ p, A = some p → B ≤ p.block) (hS : ∀ k, S k → k < B) (ht : Touch S w w') : Rd w' A size n xs :=
  h.touch ht (fun p hp hs => by have := hA p hp; have := hS _ hs; omega)
set_option maxRecDepth 40000 in
set_option maxHeartbeats 16000000 in
theorem flowAssignsW (N : Int) (A : Option Addr) (n c : Nat) (E : List Edg) (Bd : Option Addr) (m d : Nat) (D : List Edg) (back : Bool) (A1 : Option Addr) (n1 c1 : Nat) (z1 : List Int) (A2 : Option Addr) (n2 c2 : Nat) (z2 : List Int) (A3 : Option Addr) (n3 c3 : Nat) (z3 : List Int) (most : Int) (w : World)
    (_ : I64 N) (_ : n ≤ c) (h : Rd w A 3 n (esCells E)) (_ : ∀ k, k < n → edgOk (ge E k)) (_ : m ≤ d) (hD : Rd w Bd 3 m (esCells D)) (_ : ∀ k, k < m → edgOk (ge D k)) (hz1 : Rd w A1 1 n1 (z1.map (.int .i64)) ∧ ∀ z ∈ z1, (Lit.int .i64 z).wf = true) (hz2 : Rd w A2 1 n2 (z2.map (.int .i64)) ∧ ∀ z ∈ z2, (Lit.int .i64 z).wf = true) (hz3 : Rd w A3 1 n3 (z3.map (.int .u64)) ∧ ∀ z ∈ z3, (Lit.int .u64 z).wf = true) (hmo : U64 most) :
    Calls Try.prog 7 #[.agg #[.int .i64 N, .slice A n c], .slice Bd m d, .agg #[.bool back, .slice A1 n1 c1, .slice A2 n2 c2, .slice A3 n3 c3, .int .u64 most]] w fun e w' => e = .returned (.bool true) ∧ Grows w w' := by
  obtain ⟨hz1, _⟩ := hz1
  obtain ⟨hz2, _⟩ := hz2
  obtain ⟨hz3, hwf⟩ := hz3
  rw [wv_of hwf] at hz3
  generalize z3.map Int.toNat = W at hz3
  unfold U64 at hmo
  obtain ⟨mo, rfl⟩ : ∃ mo : Nat, most = (mo : Int) := ⟨most.toNat, by omega⟩
  have e1 : z1.length = n1 := by simpa using hz1.len
  have e2 : z2.length = n2 := by simpa using hz2.len
  have e3 : W.length = n3 := hz3.wlen
  have e4 : E.length = n := h.elen
  have e5 : D.length = m := hD.elen
  subst e1 e2 e3 e4 e5
  have CL := fun (W1 : World) => lLight14 N A E.length c back A1 A2 A3 z1.length c1 z2.length c2 W.length c3 mo W1
  unfold oVal at CL
  have CM := fun (W1 : World) => lLight47 N A E.length c Bd D.length d W1
  cases hq0 : light47 N E.length D.length with
  | false =>
    rw [hq0] at CM
    have H0 := hide CM
    clear CL CM hq0 h hD hz1 hz2 hz3
    go_enter Try.func7, Try.ntmps7
    go_wp2_with (first | (go_at_call 36; refine (H0.out _).mono ?_; rintro e w' ⟨rfl, hg⟩; (first | obtain ⟨x, rfl⟩ := Grows.later2 hg | obtain ⟨x, rfl⟩ := Grows.later hg); clear hg) | (go_at_call 37; refine (alive47 _).mono ?_; rintro e w' ⟨rfl, hg⟩; (first | obtain ⟨x, rfl⟩ := Grows.later2 hg | obtain ⟨x, rfl⟩ := Grows.later hg); clear hg))
    go_ret
    exact ⟨rfl, (by repeat (first | exact Grows.refl _ | refine Grows.now ?_ _ | refine Grows.new ?_ _ | refine Grows.drewN ?_ _ | refine Grows.drew ?_ | assumption | (refine Grows.set ?_ (by first | omega | (simp; done) | (simp; omega)) _)))⟩
  | true =>
  rw [hq0] at CM
  have H0 := hide CM
  cases hq : light14 N E.length z1.length z2.length W.length with
  | false =>
    rw [hq] at CL
    have H1 := hide CL
    clear CL CM hq hq0 h hD hz1 hz2 hz3
    go_enter Try.func7, Try.ntmps7
    go_wp2_with (first | (go_at_call 36; refine (H0.out _).mono ?_; rintro e w' ⟨rfl, hg⟩; (first | obtain ⟨x, rfl⟩ := Grows.later2 hg | obtain ⟨x, rfl⟩ := Grows.later hg); clear hg) | (go_at_call 22; refine (H1.out _).mono ?_; rintro e w' ⟨rfl, hg⟩; (first | obtain ⟨x, rfl⟩ := Grows.later2 hg | obtain ⟨x, rfl⟩ := Grows.later hg); clear hg) | (go_at_call 37; refine (alive47 _).mono ?_; rintro e w' ⟨rfl, hg⟩; (first | obtain ⟨x, rfl⟩ := Grows.later2 hg | obtain ⟨x, rfl⟩ := Grows.later hg); clear hg))
    go_ret
    exact ⟨rfl, (by repeat (first | exact Grows.refl _ | refine Grows.now ?_ _ | refine Grows.new ?_ _ | refine Grows.drewN ?_ _ | refine Grows.drew ?_ | assumption | (refine Grows.set ?_ (by first | omega | (simp; done) | (simp; omega)) _)))⟩
  | true =>
  rw [hq] at CL
  have H1 := hide CL
  have hsz : E.length ≤ 60 ∧ z1.length ≤ 1000000 ∧ z2.length ≤ 1000000 ∧ W.length ≤ 1000000 := by
    unfold light14 lightG at hq
    unfold light47 at hq0
    simp at hq hq0
    omega
  have hdl : D.length ≤ 2000 := by
    unfold light47 at hq0
    simp at hq0
    omega
  obtain ⟨hn0, hn1, hn2, hn3⟩ := hsz
  have hn : E.length ≤ 1000000 := by omega
  clear CL CM hq hq0
  have KO := hide (fun (W1 : World) => law14Of back (.slice A1 z1.length c1) (.slice A2 z2.length c2) ⟨_, _, _, rfl⟩ ⟨_, _, _, rfl⟩ A3 W.length c3 mo W1)
  unfold oVal at KO
  obtain ⟨P, hP⟩ := ways_any E ⟨back, z1, z2, W, mo⟩ N D hn1 hn2
  have hLl := asgR_len N E D ⟨back, z1, z2, W, mo⟩ P
  have hLn := asgR_nn N E D ⟨back, z1, z2, W, mo⟩ P
  have K1 := hide (fun (W1 : World) (Bq : Option Addr) (dq : Nat) (g : Grows w W1) (hq : Rd W1 Bq 3 D.length (esCells D)) => show Calls Try.prog 38 #[.agg #[.int .i64 N, .slice A E.length c], .slice Bq D.length dq, .agg #[.bool back, .slice A1 z1.length c1, .slice A2 z2.length c2, .slice A3 W.length c3, .int .u64 (mo : Int)]] W1 (AsgP W1 (asgR N E D ⟨back, z1, z2, W, mo⟩ P).1 (asgR N E D ⟨back, z1, z2, W, mo⟩ P).2.1 (asgR N E D ⟨back, z1, z2, W, mo⟩ P).2.2) from
    fAssign N A c E Bq dq D ⟨back, z1, z2, W, mo⟩ A1 A2 A3 c1 c2 c3 P W1 (h.grows g) hq (hz1.grows g) (hz2.grows g) (hz3.grows g) hn hn3 (by omega) hP)
  have K2 := hide (fun (W1 : World) (g : Grows w W1) => show Calls Try.prog 40 #[.agg #[.int .i64 N, .slice A E.length c], .slice Bd D.length d, .agg #[.bool back, .slice A1 z1.length c1, .slice A2 z2.length c2, .slice A3 W.length c3, .int .u64 (mo : Int)]] W1 (AsgP W1 (asgR N E D ⟨back, z1, z2, W, mo⟩ P).1 (asgR N E D ⟨back, z1, z2, W, mo⟩ P).2.1 (asgR N E D ⟨back, z1, z2, W, mo⟩ P).2.2) from
    r47Assign N A c E Bd d D ⟨back, z1, z2, W, mo⟩ A1 A2 A3 c1 c2 c3 P W1 (h.grows g) (hD.grows g) (hz1.grows g) (hz2.grows g) (hz3.grows g) hn hn3 (by omega) hP)
  have K3 := hide (fun (W1 : World) (g : Grows w W1) => law47of Bd D.length d D W1 (hD.grows g) (by omega))
  have K4 := hide (fun (W1 : World) (Bq : Option Addr) (dq : Nat) (g : Grows w W1) (hq : Rd W1 Bq 3 D.length (esCells D)) => fRight N A c E Bq dq D W1 (h.grows g) hq hn (by omega))
  have K5 := hide (fun (W1 : World) (g : Grows w W1) => r47Right N A c E Bd d D W1 (h.grows g) (hD.grows g) hn (by omega))
  clear h hD hz1 hz2 hz3 hP
  generalize hR : asgR N E D ⟨back, z1, z2, W, mo⟩ P = R at *
  clear hR
  obtain ⟨L, lost, fr⟩ := R
  dsimp only at K1 K2 hLl hLn
  have hln : L.length ≤ 1000000 := by omega
  have K6 := hide (fun (W1 : World) (A8 A9 : Option Addr) (c8 c9 : Nat) (q1 : Rd W1 A8 1 L.length (uv L)) (q2 : Rd W1 A9 1 L.length (uv L)) => show Calls Try.prog 41 #[.agg #[.slice A8 L.length c8, .int .u64 lost], .agg #[.slice A9 L.length c9, .int .u64 lost]] W1 fun e w' => e = .returned (.bool true) ∧ Grows W1 w' from by
    rw [uv_nat hLn] at q1 q2
    have e9 : (L.map Int.toNat).length = L.length := by simp
    have := law47same A8 c8 (L.map Int.toNat) lost A9 c9 W1 (by rw [e9]; exact q1) (by rw [e9]; exact q2) (by rw [e9]; exact hln)
    rw [e9] at this
    exact this)
  generalize fRightF N E D = fR at *
  clear hLl hLn hln hn hn0 hn1 hn2 hn3 hdl
  go_enter Try.func7, Try.ntmps7
  go_wp2_with (first | (go_at_call 36; refine (H0.out _).mono ?_; rintro e w' ⟨rfl, hg⟩; obtain ⟨x1, rfl⟩ := hg.later; clear hg) | (go_at_call 22; refine (H1.out _).mono ?_; rintro e w' ⟨rfl, hg⟩; obtain ⟨x2, rfl⟩ := Grows.later2 hg; clear hg))
  have b1 : Arr x2.now w.heap.size 24 [.int .i64 N, .slice A E.length c] := Arr.grow ⟨by simp [heap_push, Array.getElem_push, Array.getElem?_push, eq_add2]⟩ x2.grows
  have b2 : Arr x2.now (w.heap.size + 1) 39 [.bool back, .slice A1 z1.length c1, .slice A2 z2.length c2, .slice A3 W.length c3, .int .u64 (mo : Int)] := Arr.grow ⟨by simp [heap_push, Array.getElem_push, Array.getElem?_push, eq_add2]⟩ x2.grows
  go_upto_region 3 with fail
  refine wp_region_box (bxS 8 9 6 7 28 68 [.slice none 0 0, .int .u64 0]) (by kernel_rfl) (by kernel_rfl) (by kernel_rfl) (fun oa os h1 h2 => by injection h1 with h1; injection h2 with h2; subst h1 h2; exact bxS_runs (by kernel_rfl) rfl rfl) ?_
  (repeat' (refine gLexX_val0 rfl (by kernel_rfl) (by kernel_rfl) (fun K hK => ?_); go_simp; (try (simp only [↓IntWalk.iteOmega]; try go_simp)); (try simp (disch := omega) only [IntWalk.i64_in]); (try simp (disch := omega) only [IntWalk.u64_in]); first | (refine hK _ ?_; clear hK K) | (apply Exists.intro; refine ⟨fun x => ?_, hK _ ?_⟩; (first | fail); clear hK K)))
  refine gLexX_prop rfl (by kernel_rfl) (by kernel_rfl) rfl (by simp) (DemQ D.length D) (fun x S hS => ?_) ?_
  · go_simp
    refine (K3.out _ (by repeat (first | exact Grows.refl _ | refine Grows.now ?_ _ | refine Grows.new ?_ _ | refine Grows.drewN ?_ _ | refine Grows.drew ?_ | assumption | (refine Grows.set ?_ (by first | omega | (simp; done) | (simp; omega)) _)))).mono ?_
    rintro e w' ⟨A8, c8, rfl, ho, hg⟩
    exact ⟨_, rfl, hg, fun w'' ht => ⟨A8, c8, rfl, (ho.noBox (fun k hk => (hS k hk).2) ht).rd⟩⟩
  (repeat' (refine gLexX_val0 rfl (by kernel_rfl) (by kernel_rfl) (fun K hK => ?_); go_simp; (try (simp only [↓IntWalk.iteOmega]; try go_simp)); (try simp (disch := omega) only [IntWalk.i64_in]); (try simp (disch := omega) only [IntWalk.u64_in]); first | (refine hK _ ?_; clear hK K) | (apply Exists.intro; refine ⟨fun x => ?_, hK _ ?_⟩; (first | fail); clear hK K)))
  refine gLexX_depW (t0 := 25) rfl (by kernel_rfl) (by kernel_rfl) rfl (by simp) rfl (by simp) (PairQ (RepQ 0 L.length (uv L) lost) (.int .i64 fr)) (fun x S v hS hv => ?_) ?_
  · obtain ⟨Aq, cq, rfl, hq⟩ := hv
    go_simp
    refine (K1.out _ _ _ (by repeat (first | exact Grows.refl _ | refine Grows.now ?_ _ | refine Grows.new ?_ _ | refine Grows.drewN ?_ _ | refine Grows.drew ?_ | assumption | (refine Grows.set ?_ (by first | omega | (simp; done) | (simp; omega)) _))) hq).mono ?_
    rintro e w' ⟨A8, c8, rfl, ho, hlo, hg⟩
    exact ⟨_, rfl, hg, fun w'' ht => ⟨_, rfl, A8, c8, rfl, ho.noBox hlo (fun k hk => (hS k hk).2) ht, fun p hp => Nat.zero_le _⟩⟩
  refine gLexX_pair (by kernel_rfl) ⟨rfl, rfl, rfl, rfl, rfl, rfl⟩ ⟨rfl, rfl, rfl, rfl, rfl⟩ ⟨rfl, rfl, rfl, rfl, rfl⟩ (by decide) rfl (by decide) rfl (by simp) (by kernel_rfl) (by kernel_rfl) (by kernel_rfl) (by kernel_rfl) (by kernel_rfl) (by kernel_rfl) ?good ?_
  case good =>
    rintro v w1 ⟨A8, c8, rfl, _⟩
    exact ⟨_, rfl, rfl, by simp [Value.oneCell']⟩
  refine gLexX_end (fun y3 S b7 hb7 => ?_)
  refine AtX.pop rfl (by simp) (fun z1 hz1 => ?_)
  obtain rfl : z1 = _ := hz1
  refine AtX.pop rfl (by simp [Act.put]) (fun z2 _ => ?_)
  refine AtX.pop rfl (by simp [Act.put]) (fun z3 hz3 => ?_)
  obtain rfl : z3 = _ := hz3
  refine AtX.pop rfl (by simp [Act.put]) (fun z4 hz4 => ?_)
  obtain ⟨A8, c8, rfl, ho8, _⟩ := hz4
  refine AtX.pop rfl (by simp [Act.put]) (fun z5 _ => ?_)
  refine AtX.pop rfl (by simp [Act.put]) (fun z6 _ => ?_)
  refine AtX.pop rfl (by simp [Act.put]) (fun z7 _ => ?_)
  refine AtX.base (by simp [Act.put, bxS]; rfl) (by simp [Act.put, bxS]; rfl) (fun e9 ha7 => ?_)
  subst e9
  simp only [Act.put, List.setIfInBounds_toArray, List.set_cons_zero, List.set_cons_succ]
  have a7 : Arr y3.now b7 68 [.slice A8 L.length c8, .int .u64 lost] := ha7
  have HO8 := hide ho8
  clear ha7 ho8 hb7
  · go_upto_region 4 with fail
    refine wp_region_box (bxS 8 9 6 9 36 73 [.slice none 0 0, .int .u64 0]) (by kernel_rfl) (by kernel_rfl) (by kernel_rfl) (fun oa os h1 h2 => by injection h1 with h1; injection h2 with h2; subst h1 h2; exact bxS_runs (by kernel_rfl) rfl rfl) ?_
    (repeat' (refine gLexX_val0 rfl (by kernel_rfl) (by kernel_rfl) (fun K hK => ?_); go_simp; (try (simp only [↓IntWalk.iteOmega]; try go_simp)); (try simp (disch := omega) only [IntWalk.i64_in]); (try simp (disch := omega) only [IntWalk.u64_in]); first | (refine hK _ ?_; clear hK K) | (apply Exists.intro; refine ⟨fun x => ?_, hK _ ?_⟩; (first | (go_at_call 27; exact KO.out _)); clear hK K)))
    refine gLexX_prop rfl (by kernel_rfl) (by kernel_rfl) rfl (by simp) (PairQ (RepQ 0 L.length (uv L) lost) (.int .i64 fr)) (fun x S hS => ?_) ?_
    · go_simp
      refine (K2.out _ (by repeat (first | exact Grows.refl _ | refine Grows.now ?_ _ | refine Grows.new ?_ _ | refine Grows.drewN ?_ _ | refine Grows.drew ?_ | assumption | (refine Grows.set ?_ (by first | omega | (simp; done) | (simp; omega)) _)))).mono ?_
      rintro e w' ⟨A9, c9, rfl, ho, hlo, hg⟩
      exact ⟨_, rfl, hg, fun w'' ht => ⟨_, rfl, A9, c9, rfl, ho.noBox hlo (fun k hk => (hS k hk).2) ht, fun p hp => Nat.zero_le _⟩⟩
    refine gLexX_pair (by kernel_rfl) ⟨rfl, rfl, rfl, rfl, rfl, rfl⟩ ⟨rfl, rfl, rfl, rfl, rfl⟩ ⟨rfl, rfl, rfl, rfl, rfl⟩ (by decide) rfl (by decide) rfl (by simp) (by kernel_rfl) (by kernel_rfl) (by kernel_rfl) (by kernel_rfl) (by kernel_rfl) (by kernel_rfl) ?good ?_
    case good =>
      rintro v w1 ⟨A9, c9, rfl, _⟩
      exact ⟨_, rfl, rfl, by simp [Value.oneCell']⟩
    refine gLexX_end (fun y4 S b9 hb9 => ?_)
    refine AtX.pop rfl (by simp) (fun z1 hz1 => ?_)
    obtain rfl : z1 = _ := hz1
    refine AtX.pop rfl (by simp [Act.put]) (fun z2 _ => ?_)
    refine AtX.pop rfl (by simp [Act.put]) (fun z3 hz3 => ?_)
    obtain rfl : z3 = _ := hz3
    refine AtX.pop rfl (by simp [Act.put]) (fun z4 hz4 => ?_)
    obtain ⟨A9, c9, rfl, ho9, _⟩ := hz4
    refine AtX.pop rfl (by simp [Act.put]) (fun z5 _ => ?_)
    refine AtX.pop rfl (by simp [Act.put]) (fun z6 _ => ?_)
    refine AtX.base (by simp [Act.put, bxS]; rfl) (by simp [Act.put, bxS]; rfl) (fun e9 ha9 => ?_)
    subst e9
    simp only [Act.put, List.setIfInBounds_toArray, List.set_cons_zero, List.set_cons_succ]
    have a9 : Arr y4.now b9 73 [.slice A9 L.length c9, .int .u64 lost] := ha9
    have HO9 := hide ho9
    clear ha9 ho9 hb9
    · go_upto_region 5 with fail
      refine wp_region_gen (by kernel_rfl) (by kernel_rfl) ?_
      (repeat' (first | (refine gLex_val0 rfl (by kernel_rfl) (fun K hK => ?_); (go_simp; (try (simp only [↓IntWalk.iteOmega]; try go_simp)); (try simp (disch := omega) only [IntWalk.i64_in]); (try simp (disch := omega) only [IntWalk.u64_in]); first | (refine hK _ ?_; clear hK K) | (apply Exists.intro; refine ⟨fun x => ?_, hK _ ?_⟩; (first | (go_at_call 41; exact K6.out _ _ _ _ _ (HO8.out.grows (by repeat (first | exact Grows.refl _ | refine Grows.now ?_ _ | refine Grows.new ?_ _ | refine Grows.drewN ?_ _ | refine Grows.drew ?_ | assumption | (refine Grows.set ?_ (by first | omega | (simp; done) | (simp; omega)) _)))) (HO9.out.grows (by repeat (first | exact Grows.refl _ | refine Grows.now ?_ _ | refine Grows.new ?_ _ | refine Grows.drewN ?_ _ | refine Grows.drew ?_ | assumption | (refine Grows.set ?_ (by first | omega | (simp; done) | (simp; omega)) _)))))); clear hK K))) | (refine gLex_undef rfl rfl rfl (by kernel_rfl) (fun K hK => ?_); go_simp; refine hK _ ?_; clear hK K) | (refine gLex_ask rfl rfl rfl ?_; first | (apply gAsk_yes; kernel_rfl; intro K hK; (go_simp; (try (simp only [↓IntWalk.iteOmega]; try go_simp)); (try simp (disch := omega) only [IntWalk.i64_in]); (try simp (disch := omega) only [IntWalk.u64_in]); first | (refine hK _ ?_; clear hK K) | (apply Exists.intro; refine ⟨fun x => ?_, hK _ ?_⟩; (first | (go_at_call 41; exact K6.out _ _ _ _ _ (HO8.out.grows (by repeat (first | exact Grows.refl _ | refine Grows.now ?_ _ | refine Grows.new ?_ _ | refine Grows.drewN ?_ _ | refine Grows.drew ?_ | assumption | (refine Grows.set ?_ (by first | omega | (simp; done) | (simp; omega)) _)))) (HO9.out.grows (by repeat (first | exact Grows.refl _ | refine Grows.now ?_ _ | refine Grows.new ?_ _ | refine Grows.drewN ?_ _ | refine Grows.drew ?_ | assumption | (refine Grows.set ?_ (by first | omega | (simp; done) | (simp; omega)) _)))))); clear hK K))) | ((first | apply gAsk_no1 | apply gAsk_no2); kernel_rfl; intro K hK; simp [go_sem]; refine hK _ ?_; clear hK K))))
      refine gLex_propW (by kernel_rfl) (by kernel_rfl) rfl (by simp) (DemQ D.length D) (DemQ.lasts _ _) (fun y => by
        go_simp
        refine (K3.out _ (by repeat (first | exact Grows.refl _ | refine Grows.now ?_ _ | refine Grows.new ?_ _ | refine Grows.drewN ?_ _ | refine Grows.drew ?_ | assumption | (refine Grows.set ?_ (by first | omega | (simp; done) | (simp; omega)) _)))).mono ?_
        rintro e w' ⟨A8, c8, rfl, ho, hg⟩
        exact ⟨_, rfl, hg, A8, c8, rfl, ho.rd⟩) ?_
      refine gLex_depV (t0 := 49) (by kernel_rfl) (by kernel_rfl) rfl (by simp) (.int .i64 fR) (fun y u hu => by
        obtain ⟨Aq, cq, rfl, hq⟩ := hu
        go_simp
        exact (K4.out _ _ _ (by repeat (first | exact Grows.refl _ | refine Grows.now ?_ _ | refine Grows.new ?_ _ | refine Grows.drewN ?_ _ | refine Grows.drew ?_ | assumption | (refine Grows.set ?_ (by first | omega | (simp; done) | (simp; omega)) _))) hq)) ?_
      simp only [Act.put, List.setIfInBounds_toArray, List.set_cons_zero, List.set_cons_succ]
      (repeat' (first | (refine gLex_val0 rfl (by kernel_rfl) (fun K hK => ?_); (go_simp; (try (simp only [↓IntWalk.iteOmega]; try go_simp)); (try simp (disch := omega) only [IntWalk.i64_in]); (try simp (disch := omega) only [IntWalk.u64_in]); first | (refine hK _ ?_; clear hK K) | (apply Exists.intro; refine ⟨fun x => ?_, hK _ ?_⟩; (first | (go_at_call 43; exact K5.out _ (by repeat (first | exact Grows.refl _ | refine Grows.now ?_ _ | refine Grows.new ?_ _ | refine Grows.drewN ?_ _ | refine Grows.drew ?_ | assumption | (refine Grows.set ?_ (by first | omega | (simp; done) | (simp; omega)) _)))) | (go_at_call 37; exact alive47 _)); clear hK K))) | (refine gLex_undef rfl rfl rfl (by kernel_rfl) (fun K hK => ?_); go_simp; refine hK _ ?_; clear hK K) | (refine gLex_ask rfl rfl rfl ?_; first | (apply gAsk_yes; kernel_rfl; intro K hK; (go_simp; (try (simp only [↓IntWalk.iteOmega]; try go_simp)); (try simp (disch := omega) only [IntWalk.i64_in]); (try simp (disch := omega) only [IntWalk.u64_in]); first | (refine hK _ ?_; clear hK K) | (apply Exists.intro; refine ⟨fun x => ?_, hK _ ?_⟩; (first | (go_at_call 43; exact K5.out _ (by repeat (first | exact Grows.refl _ | refine Grows.now ?_ _ | refine Grows.new ?_ _ | refine Grows.drewN ?_ _ | refine Grows.drew ?_ | assumption | (refine Grows.set ?_ (by first | omega | (simp; done) | (simp; omega)) _)))) | (go_at_call 37; exact alive47 _)); clear hK K))) | ((first | apply gAsk_no1 | apply gAsk_no2); kernel_rfl; intro K hK; simp [go_sem]; refine hK _ ?_; clear hK K))))
      refine gLex_endA (fun y5 => ?_)
      refine AtA.pop rfl (by simp) (fun z _ => ?_)
      refine AtA.base ?_
      simp only [Act.put, List.setIfInBounds_toArray, List.set_cons_zero, List.set_cons_succ]
      go_wp2_with fail
      go_ret
      exact ⟨rfl, (by repeat (first | exact Grows.refl _ | refine Grows.now ?_ _ | refine Grows.new ?_ _ | refine Grows.drewN ?_ _ | refine Grows.drew ?_ | assumption | (refine Grows.set ?_ (by first | omega | (simp; done) | (simp; omega)) _)))⟩
end Go.Proofs.Ythjcbboignmknaa

/- What an argument that can be read is: slices of demands. -/
namespace Go.Proofs.Ythjcbboignmknaa
open Go Go.ChangeShapes Go.WideShapes Go.ChangeAt Go.RowKit
section
variable {H : Type} {enc : TypeId × Value → H} {P : Program} {w : World} {base b0 : Nat} {held : Bool} {r : Reach} {t : TypeId} {v : Value} {d : DataW H} {p : List MemPlace}
theorem open_dems {te : TypeId} {f0 f1 f2 : Field} (ht : P.underlying t = some (.slice te)) (hs : P.underlying te = some (.struct #[f0, f1, f2]))
    (h0 : P.underlying f0.type = some (.int .i64)) (h1 : P.underlying f1.type = some (.int .i64)) (h2 : P.underlying f2.type = some (.int .u64)) (ho : f0.offset = 0 ∧ f1.offset = 1 ∧ f2.offset = 2)
    (hcs : P.cellsOf f0.type = 1 ∧ P.cellsOf f1.type = 1 ∧ P.cellsOf f2.type = 1) (hc : P.cellsOf te = 3)
    (hv : Value.okWide P w r b0 t v) (h : DataW.Trod enc P w base (fun _ => true) held t v d p) :
    ∃ (A : Option Addr) (n c : Nat) (E : List Edg), v = .slice A n c ∧ n ≤ c ∧ Rd w A 3 n (esCells E) ∧ ∀ k, k < n → edgOk (ge E k) := by
  obtain ⟨A, n, c, rfl⟩ := okWide_slice ht hv
  obtain ⟨fuel, hf⟩ := h
  obtain ⟨A', n', c', E, hcs', hl, hr, hE⟩ := open_edges ht hs h0 h1 h2 ho hcs hc hf
  simp [Value.cells] at hcs'
  obtain ⟨rfl, rfl, rfl⟩ := hcs'
  exact ⟨A, n, c, E, rfl, hl, hr, hE⟩
end
end Go.Proofs.Ythjcbboignmknaa

/- The law FlowAssigns: for every input it returns true, and each argument reads as before. No condition. -/
namespace Go.Proofs.Ythjcbboignmknaa.lawFlowAssigns
open Go Go.ChangeShapes Go.WideShapes Go.ChangeAt Go.RowKit Go.Proofs.Ythjcbboignmknaa

theorem own : ownKnob Try.prog.godebug = none := by kernel_rfl
theorem laidOut : laidOutB Try.prog = true := by kernel_rfl

set_option maxRecDepth 100000 in
theorem lifted (os : Os) (started : os.Started) (H : Type) (enc : TypeId × Value → H) :
    ReturnsInHanded {} Try.checked os 7 .any (Rows.flowAssignsSpec.pre6 enc Try.prog Try.f7 Rows.flowAssignsRow.domain false) (Rows.flowAssignsSpec.post enc Try.prog Try.f7 false true false false) := by
  refine returnsInHanded_of_change (C := Try.checked) own started (by kernel_rfl) Try.func7
    (ChangeSpec.witness6 (enc := enc) (C := Try.checked) false ⟨#[], #[.agg #[.int .i64 0, .slice none 0 0], .slice none 0 0, .agg #[.bool false, .slice none 0 0, .slice none 0 0, .slice none 0 0, .int .u64 0]], []⟩ 8 (by kernel_rfl) (by kernel_rfl) (by kernel_rfl) (by kernel_rfl)) ?_
  intro W base args ds gs before hval0 hW hcnd _
  have hval : ∀ (j : Nat) t v, Try.f7.params[j]? = some t → args[j]? = some v → Value.okWide Try.prog W .any base t v := hval0
  have hW' := hW
  obtain ⟨p, q, hA0, hV, rfl, hfz, hnd⟩ := hW
  have hA : DataW.TrodAll enc Try.prog W 0 (fun _ => true) true Try.f7.params.toList args.toList ds p := hA0
  rw [Try.params7] at hA hval
  obtain ⟨v0, vs0, d0, ds0, p0, q0, hargs, rfl, rfl, h0, r0⟩ := trodAll_cons hA
  obtain ⟨v1, vs1, d1, ds1, p1, q1, rfl, rfl, rfl, h1, r1⟩ := trodAll_cons r0
  obtain ⟨v2, vs2, d2, ds2, p2, q2, rfl, rfl, rfl, h2, r2⟩ := trodAll_cons r1
  obtain ⟨rfl, rfl, rfl⟩ := trodAll_nil r2
  obtain rfl : args = #[v0, v1, v2] := by cases args; simp_all
  obtain ⟨rfl, rfl⟩ := trodVars_none hV
  have k0 := h0
  have lt0 : ∀ x ∈ p0, x.block < W.heap.size := by obtain ⟨m, hm⟩ := k0; exact DataW.trod_lt m _ _ _ hm
  obtain ⟨a0, A0, n0, c0, z0, rfl, x0, l0, w0, u0⟩ := open_graph Try.underlying24 Try.underlying3 Try.underlying22 Try.underlying62 Try.underlying3 Try.underlying3 Try.underlying37 ⟨rfl, rfl, rfl⟩ ⟨by kernel_rfl, by kernel_rfl, by kernel_rfl⟩ (by kernel_rfl) (by kernel_rfl) (by kernel_rfl) (hval 0 24 v0 rfl rfl) h0
  have k1 := h1
  have lt1 : ∀ x ∈ p1, x.block < W.heap.size := by obtain ⟨m, hm⟩ := k1; exact DataW.trod_lt m _ _ _ hm
  obtain ⟨A1, n1, c1, z1, rfl, l1, w1, u1⟩ := open_dems Try.underlying65 Try.underlying81 Try.underlying3 Try.underlying3 Try.underlying37 ⟨rfl, rfl, rfl⟩ ⟨by kernel_rfl, by kernel_rfl, by kernel_rfl⟩ (by kernel_rfl) (hval 1 65 v1 rfl rfl) h1
  have k2 := h2
  have lt2 : ∀ x ∈ p2, x.block < W.heap.size := by obtain ⟨m, hm⟩ := k2; exact DataW.trod_lt m _ _ _ hm
  obtain ⟨a2, A2a, n2a, c2a, z2a, A2b, n2b, c2b, z2b, A2c, n2c, c2c, z2c, m2, rfl, w2a, w2b, w2c, u2⟩ := open_opt Try.underlying39 Try.underlying4 Try.underlying31 Try.underlying31 Try.underlying36 Try.underlying37 Try.underlying3 Try.underlying37 (by kernel_rfl) (by kernel_rfl) (by kernel_rfl) (by kernel_rfl) (hval 2 39 v2 rfl rfl) h2
  clear hA0 hval0
  refine (flowAssignsW a0 A0 n0 c0 z0 A1 n1 c1 z1 a2 A2a n2a c2a z2a A2b n2b c2b z2b A2c n2c c2c z2c m2 W x0 l0 w0 u0 l1 w1 u1 w2a w2b w2c u2).mono fun e W' ⟨he, bel⟩ => ?_
  subst he
  exact ⟨_, rfl, _, _, _, [], _, [], hW', trodAll_mk1 (shut_bool Try.underlying4 _), (trodAll_cons_mk (Below.trod laidOut (by kernel_rfl) (of_decide_eq_true (by kernel_rfl)) k0 bel lt0) (trodAll_cons_mk (Below.trod laidOut (by kernel_rfl) (of_decide_eq_true (by kernel_rfl)) k1 bel lt1) (trodAll_cons_mk (Below.trod laidOut (by kernel_rfl) (of_decide_eq_true (by kernel_rfl)) k2 bel lt2) trodAll_mk0))), rfl, Below.frame bel _, fun h => by cases h⟩

theorem over : Rows.flowAssignsRow.holds Try.pinned (OpenSpec.ofChange Rows.flowAssignsSpec) :=
  OpenClaim.holds_of_wide 7 Try.f7 rfl rfl rfl rfl rfl rfl rfl ⟨rfl, rfl, rfl, rfl, rfl⟩ rfl rfl rfl rfl rfl (by kernel_rfl) Try.func7 (by kernel_rfl)
    (of_decide_eq_true (by kernel_rfl)) (by unfold Func.isWrapper; first | (rw [if_pos (by decide +kernel)]; kernel_rfl) | (rw [if_neg (by decide +kernel)]; exact ⟨rfl, rfl⟩))
    (fun os started H enc _ => lifted os started H enc)

end Go.Proofs.Ythjcbboignmknaa.lawFlowAssigns
namespace Go.Proofs.Ythjcbboignmknaa
/-- The statement. -/
theorem flowAssigns_proved : Rows.FlowAssignsSaid := lawFlowAssigns.over
#print axioms flowAssigns_proved
end Go.Proofs.Ythjcbboignmknaa
