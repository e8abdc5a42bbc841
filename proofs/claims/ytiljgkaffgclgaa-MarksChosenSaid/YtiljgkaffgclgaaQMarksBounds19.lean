/- Contract: landmarks of a graph are laid, by the program. -/
import Derived.Test.YtiljgkaffgclgaaQMarksBounds18
import Derived.Test.YtiljgkaffgclgaaQMarksBounds16
import Derived.Test.YtiljgkaffgclgaaQMarksBounds01
import Derived.Test.YtiljgkaffgclgaaQMarksBounds07
/- Contract: landmarks of a graph are laid, by the program. -/
namespace Go.Proofs.Ytiljgkaffgclgaa
open Go Go.RowKit
theorem ev_nf {a : Act} {t : Tmp} {v : Value} (h : a.eval (.tmp t) = v) : a.tmps[t]?.getD undef = v := by
  rw [← h]
  simp [Act.eval]
theorem notDst_spec {l : List Oper} {t : Tmp} (h : (l.all fun o => decide (o.dst ≠ some t)) = true) : ∀ j, dstOf l j ≠ some t := fun j hj => by
  unfold dstOf at hj
  cases ho : l[j]? with
  | none => rw [ho] at hj; cases hj
  | some o =>
    rw [ho] at hj
    rw [List.all_eq_true] at h
    have := h o (List.mem_of_getElem? ho)
    simp only [decide_eq_true_eq] at this
    exact this hj
set_option maxRecDepth 20000 in
set_option maxHeartbeats 4000000 in
theorem mkNew (NN : Nat) (A : Option Addr) (c : Nat) (E : List Edg) (B : Option Addr) (cl : Nat) (l : List Nat) (F T : Nat → List Nat) (hM : Mks NN E F T) (hK : MarkOk NN E l) (w : World) (h : Rd w A 3 E.length (esCells E)) (h2 : Rd w B 1 l.length (nv l)) (hl : l.length ≤ 64) :
    Calls Try.prog 15 #[.agg #[.int .i64 (NN : Int), .slice A E.length c], .slice B l.length cl] w fun e w' => ∃ gm, e = .returned (.tuple #[.pointer (some ⟨gm, 0, none⟩), .int .i64 0]) ∧ MkAt w' gm NN E l F T ∧ Grows w w' := by
  obtain ⟨r1, r2, r3, r4, r5⟩ := right_in hK.right
  have hE : E.length ≤ 1000000 := by omega
  have hall : (((l.map fun (x : Nat) => (x : Int))).any fun e => !nodeB (NN : Int) e) = false := by
    rw [List.any_eq_false]
    intro e he
    obtain ⟨x, hx, rfl⟩ := List.mem_map.1 he
    obtain ⟨j, hj, rfl⟩ := List.mem_iff_getElem.1 hx
    have e1 : gn l j = l[j] := by simp [gn, hj]
    have := hK.node j hj
    rw [e1] at this
    simp [nodeB, this]
  have hnv : nv l = (l.map fun (x : Nat) => (x : Int)).map (.int .i64) := by simp [nv]
  have hr0 := hK.right
  have C1 := hide (fun (W : World) (g : Grows w W) => gRight (NN : Int) A E.length c E W (h.grows g) hE)
  rw [hr0] at C1
  have C2 := hide (fun (W : World) (g : Grows w W) (b : Nat) (h1 : Holds W ⟨b, 0, none⟩ (.int .i64 (NN : Int))) (h3 : Holds W ⟨b, 1, none⟩ (.slice A E.length c)) => show Calls Try.prog 63 #[.slice B l.length cl, .func (.func 64) #[] #[.pointer (some ⟨b, 0, none⟩)]] W fun e w' => e = .returned (.bool false) ∧ Grows W w' from by
    have := containsI B l.length cl (l.map fun (x : Nat) => (x : Int)) 64 #[.pointer (some ⟨b, 0, none⟩)] (fun e => !nodeB (NN : Int) e) W (by have := h2.grows g; rwa [hnv] at this) (by omega) (fun args W => by kernel_rfl) (fun W2 g2 e => mkNew1 (NN : Int) e b A E.length c W2 ⟨g2.keeps h1.cell⟩ ⟨g2.keeps h3.cell⟩)
    rw [hall] at this
    exact this)
  have C3 := hide (fun (W : World) (g : Grows w W) => gClone (NN : Int) A E.length c E W (h.grows g) hE)
  have C4 := hide (fun (W : World) (g : Grows w W) => cloneV B l.length cl l W (h2.grows g) (by omega))
  have hd64 : decide ((64 : Int) < (l.length : Int)) = false := decide_eq_false (by omega)
  have HM := hide hM
  have HN := hide hK.node
  have HR := hide h
  have HB := hide h2
  have HE := hide hE
  clear h h2 hM hK hall hnv hr0 r1 r2 r3 r4 r5 hE
  go_enter Try.func15, Try.ntmps15
  go_wp2_with (first | (go_at_call 62; refine (C1.out _ (by repeat (first | exact Grows.refl _ | refine Grows.now ?_ _ | refine Grows.new ?_ _ | refine Grows.drewN ?_ _ | refine Grows.drew ?_ | assumption | (refine Grows.set ?_ (by first | omega | (simp; done) | (simp; omega)) _)))).mono ?_; rintro e w' ⟨rfl, hg⟩; obtain ⟨x1, rfl⟩ := hg.later; clear hg) | (go_at_call 63; refine (C2.out _ (by repeat (first | exact Grows.refl _ | refine Grows.now ?_ _ | refine Grows.new ?_ _ | refine Grows.drewN ?_ _ | refine Grows.drew ?_ | assumption | (refine Grows.set ?_ (by first | omega | (simp; done) | (simp; omega)) _))) _ inferInstance inferInstance).mono ?_; rintro e w' ⟨rfl, hg⟩; obtain ⟨x2, rfl⟩ := hg.later; clear hg))
  refine (C3.out _ (by repeat (first | exact Grows.refl _ | refine Grows.now ?_ _ | refine Grows.new ?_ _ | refine Grows.drewN ?_ _ | refine Grows.drew ?_ | assumption | (refine Grows.set ?_ (by first | omega | (simp; done) | (simp; omega)) _)))).mono ?_
  rintro e W1 ⟨A1, c1, rfl, ho1, hg1⟩
  obtain ⟨x3, rfl⟩ := hg1.later
  have HO1 := hide ho1
  clear ho1 hg1
  go_wp2_with fail
  refine (C4.out _ (by repeat (first | exact Grows.refl _ | refine Grows.now ?_ _ | refine Grows.new ?_ _ | refine Grows.drewN ?_ _ | refine Grows.drew ?_ | assumption | (refine Grows.set ?_ (by first | omega | (simp; done) | (simp; omega)) _)))).mono ?_
  rintro e W2 ⟨A2, c2, rfl, ho2, hg2⟩
  obtain ⟨x4, rfl⟩ := hg2.later
  have HO2 := hide ho2
  clear ho2 hg2
  go_upto_region 8 with fail
  obtain ⟨X, hX⟩ : ∃ X, X = x4.now.alloc (.cells #[.int .i64 (NN : Int), .slice A1 E.length c1, .slice A2 l.length c2, .slice none 0 0, .slice none 0 0] 102) := ⟨_, rfl⟩
  have hgX : Grows w X := by rw [hX]; exact (by repeat (first | exact Grows.refl _ | refine Grows.now ?_ _ | refine Grows.new ?_ _ | refine Grows.drewN ?_ _ | refine Grows.drew ?_ | assumption | (refine Grows.set ?_ (by first | omega | (simp; done) | (simp; omega)) _)))
  have aX : Arr X x4.now.heap.size 102 ([.int .i64 (NN : Int), .slice A1 E.length c1, .slice A2 l.length c2] ++ [.slice none 0 0, .slice none 0 0]) := by rw [hX]; exact Arr.make _ _ _
  have bX : Arr X w.heap.size 24 [.int .i64 (NN : Int), .slice A E.length c] := by rw [hX]; exact Arr.grow (Arr.make _ _ _) (by repeat (first | exact Grows.refl _ | refine Grows.now ?_ _ | refine Grows.new ?_ _ | refine Grows.drewN ?_ _ | refine Grows.drew ?_ | assumption | (refine Grows.set ?_ (by first | omega | (simp; done) | (simp; omega)) _)))
  have hlt1 : ∀ p, A1 = some p → p.block < x4.now.heap.size := fun p hp => (HO1.out.grows x4.grows).ty p hp |>.2.lt
  have hlt2 : ∀ p, A2 = some p → p.block < x4.now.heap.size := fun p hp => HO2.out.ty p hp |>.2.lt
  have hr1 : Rd X A1 3 E.length (esCells E) := by rw [hX]; exact HO1.out.rd.grows (by repeat (first | exact Grows.refl _ | refine Grows.now ?_ _ | refine Grows.new ?_ _ | refine Grows.drewN ?_ _ | refine Grows.drew ?_ | assumption | (refine Grows.set ?_ (by first | omega | (simp; done) | (simp; omega)) _)))
  have hr2 : Rd X A2 1 l.length (nv l) := by rw [hX]; exact HO2.out.rd.grows (by repeat (first | exact Grows.refl _ | refine Grows.now ?_ _ | refine Grows.new ?_ _ | refine Grows.drewN ?_ _ | refine Grows.drew ?_ | assumption | (refine Grows.set ?_ (by first | omega | (simp; done) | (simp; omega)) _)))
  have hgm : w.heap.size < x4.now.heap.size := by
    have h1 := x4.size
    have h2 := x3.size
    have h3 := x2.size
    have h4 := x1.size
    simp at h4
    omega
  have HGMX := hide (show x4.now.heap.size < X.heap.size from by rw [hX]; simp)
  have HL1 := hide hlt1
  have HL2 := hide hlt2
  have HR1 := hide hr1
  have HR2 := hide hr2
  rw [← hX]
  clear hX HO1 HO2 hlt1 hlt2 hr1 hr2 C1 C2 C3 C4
  generalize x4.now.heap.size = gm at *
  obtain ⟨b2, hb2⟩ : ∃ b2, w.heap.size = b2 := ⟨_, rfl⟩
  rw [hb2] at bX ⊢
  rw [hb2] at hgm
  have HB2 := hide hb2
  clear hb2
  have h0 : MkIn X X gm NN 0 F T l [.int .i64 (NN : Int), .slice A1 E.length c1, .slice A2 l.length c2] := ⟨Touch.refl _ _, none, 0, none, 0, fun _ => 0, fun _ => 0, aX, Own.nil _ _ _ _, Own.nil _ _ _ _, fun i hi => absurd hi (by omega), fun i hi => absurd hi (by omega), fun p q hp => by cases hp⟩
  have H0 := hide h0
  have HgX := hide hgX
  clear aX h0 hgX x1 x2 x3 x4
  go_wp2_with fail
  go_loopw [33] (fun s33 wr => ∃ k : Nat, k ≤ l.length ∧ s33 = .int .i64 (k : Int) ∧ MkIn X wr gm NN k F T l [.int .i64 (NN : Int), .slice A1 E.length c1, .slice A2 l.length c2]) (fun s33 _ => l.length - (Go.RowKit.intOf s33).toNat)
  case atStart => exact ⟨0, by omega, by go_num, H0.out⟩
  case round =>
    obtain ⟨k, hk, rfl, hin⟩ := hrel
    have hgw : Grows w wr := hin.touch.later HgX.out (fun b hb => by rw [HB2.out]; omega)
    have HIN := hide hin
    have HGW := hide hgw
    have bW : Arr wr b2 24 [.int .i64 (NN : Int), .slice A E.length c] := bX.touch hin.touch (by omega)
    clear hin hgw H0
    by_cases hlt : k < l.length
    · obtain ⟨_, bB, oB, rfl, hcB⟩ := (HB.out.grows HGW.out).nodesH (by omega)
      have ck := hcB k hlt
      have hnk := HN.out k hlt
      have hdk : decide ((k : Int) < (l.length : Int)) = true := decide_eq_true (by omega)
      obtain ⟨xs, hxs, hFu⟩ := HM.out.f _ hnk
      obtain ⟨ys, hys, hTu⟩ := HM.out.t _ hnk
      have CF := hide (fun (W : World) (g : Grows wr W) => show Calls Try.prog 68 #[.agg #[.int .i64 (NN : Int), .slice A E.length c], .int .i64 (gn l k : Int), .agg #[.bool false, .slice none 0 0, .slice none 0 0, .slice none 0 0, .int .u64 0]] W fun e w' =>
          ∃ go, e = .returned (.tuple #[.slice (some ⟨go, 0, none⟩) NN NN, .int .i64 0]) ∧ Row1 w' go 33 1 NN NN (wv (F (gn l k))) ∧ W.heap.size ≤ go ∧ Grows W w' from by
        rw [hFu]
        exact djAll NN (gn l k) A c E (allO false) none none none 0 0 0 xs W (HR.out.grows (HGW.out.trans g)) (rdNone _ _) (rdNone _ _) (rdNone _ _) hxs.ok hxs.dc hxs.tr hxs.lt)
      have CT := hide (fun (W : World) (g : Grows wr W) => show Calls Try.prog 68 #[.agg #[.int .i64 (NN : Int), .slice A E.length c], .int .i64 (gn l k : Int), .agg #[.bool true, .slice none 0 0, .slice none 0 0, .slice none 0 0, .int .u64 0]] W fun e w' =>
          ∃ go, e = .returned (.tuple #[.slice (some ⟨go, 0, none⟩) NN NN, .int .i64 0]) ∧ Row1 w' go 33 1 NN NN (wv (T (gn l k))) ∧ W.heap.size ≤ go ∧ Grows W w' from by
        rw [hTu]
        exact djAll NN (gn l k) A c E (allO true) none none none 0 0 0 ys W (HR.out.grows (HGW.out.trans g)) (rdNone _ _) (rdNone _ _) (rdNone _ _) hys.ok hys.dc hys.tr hys.lt)
      clear hxs hys hFu hTu hcB
      go_wp2_with fail
      refine (CF.out _ (by repeat (first | exact Grows.refl _ | refine Grows.now ?_ _ | refine Grows.new ?_ _ | refine Grows.drewN ?_ _ | refine Grows.drew ?_ | assumption | (refine Grows.set ?_ (by first | omega | (simp; done) | (simp; omega)) _)))).mono ?_
      rintro e w' ⟨g1, rfl, hrow1, hg1, hg⟩
      obtain ⟨x1, rfl⟩ := hg.later
      have HW1 := hide hrow1
      have HG1 := hide hg1
      clear hrow1 hg1 hg
      go_wp2_with fail
      refine (CT.out _ (by repeat (first | exact Grows.refl _ | refine Grows.now ?_ _ | refine Grows.new ?_ _ | refine Grows.drewN ?_ _ | refine Grows.drew ?_ | assumption | (refine Grows.set ?_ (by first | omega | (simp; done) | (simp; omega)) _)))).mono ?_
      rintro e w' ⟨g2, rfl, hrow2, hg2, hg⟩
      obtain ⟨x2, rfl⟩ := hg.later
      have HW2 := hide hrow2
      have HG2 := hide hg2
      clear hrow2 hg2 hg
      go_upto_region 13 with fail
      obtain ⟨Af, cf, At, ct, gf, gt, a0, hO1, hO2, hRf, hRt, hap⟩ := HIN.out.is
      have hszX := HIN.out.touch.size
      have a1 : Arr x2.now gm 102 [.int .i64 (NN : Int), .slice A1 E.length c1, .slice A2 l.length c2, .slice Af k cf, .slice At k ct] := (a0.grow x1.grows).grow x2.grows
      have htX : Touch (fun b => b = gm) X x2.now := (HIN.out.touch.now x1).now x2
      have hF := (hO1.grows x1.grows).grows x2.grows
      have hT := (hO2.grows x1.grows).grows x2.grows
      have hsz2 : X.heap.size ≤ x2.now.heap.size := Nat.le_trans (Nat.le_trans hszX x1.size) x2.size
      have hnF : ∀ p, Af = some p → p.block ≠ gm := fun p hp e => by
        have := (hF.ty p hp).2
        rw [e] at this
        exact absurd (this.one a1.ty) (by decide)
      have hnT : ∀ p, At = some p → p.block ≠ gm := fun p hp e => by
        have := (hT.ty p hp).2
        rw [e] at this
        exact absurd (this.one a1.ty) (by decide)
      have hlF : ∀ p, Af = some p → p.block < x2.now.heap.size := fun p hp => (hF.ty p hp).2.lt
      have hlT : ∀ p, At = some p → p.block < x2.now.heap.size := fun p hp => (hT.ty p hp).2.lt
      have HRF := hide (fun i (hi : i < k) => ((hRf i hi).grow x1.grows).grow x2.grows)
      have HRT := hide (fun i (hi : i < k) => ((hRt i hi).grow x1.grows).grow x2.grows)
      have HK1 := hide (HW1.out.grow x2.grows)
      have HK2 := hide HW2.out
      have HF := hide hF
      have HT := hide hT
      have HA := hide hap
      have H2 := hide hsz2
      have HTX := hide htX
      have HNF := hide hnF
      have HNT := hide hnT
      have HLF := hide hlF
      have HLT := hide hlT
      clear hF hT hap hsz2 hszX hO1 hO2 a0 ck bW HM CF CT hRf hRt htX hnF hnT hlF hlT HW1 HW2 HIN HGW HG1 HG2 bX HR HB HR1 HR2 HL1 HL2
      obtain ⟨W, hW⟩ : ∃ W, x2.now = W := ⟨_, rfl⟩
      rw [hW] at a1 HF HT H2 HRF HRT HK1 HK2 HTX HLF HLT ⊢
      clear hW
      obtain ⟨V, hV⟩ : ∃ V : Nat → Option Value, V = (fun j => ([some (.pointer (some ⟨gm, 0, none⟩)), some (.pointer (some ⟨gm, 0, none⟩)), some (.pointer (some ⟨gm, 0, none⟩)), some (.pointer (some ⟨gm, 0, none⟩)), some (.pointer (some ⟨gm, 3, none⟩)), some (.slice Af k cf), some (.slice (some ⟨g1, 0, none⟩) NN NN), none, none, some (.pointer (some ⟨gm, 0, none⟩)), some (.pointer (some ⟨gm, 0, none⟩)), some (.pointer (some ⟨gm, 4, none⟩)), some (.slice At k ct), some (.slice (some ⟨g2, 0, none⟩) NN NN), none, none, some (.pointer (some ⟨gm, 0, none⟩)), some (.pointer (some ⟨gm, 3, none⟩)), none, some (.pointer (some ⟨gm, 0, none⟩)), some (.pointer (some ⟨gm, 4, none⟩)), none] : List (Option Value)).getD j none) := ⟨_, rfl⟩
      have HBB : RgB W gm X.heap.size Af At := ⟨H2.out, Nat.lt_of_lt_of_le HGMX.out H2.out, fun p hp => ⟨HNF.out p hp, HLF.out p hp⟩, fun p hp => ⟨HNT.out p hp, HLT.out p hp⟩, HA.out⟩
      refine wp_region_tab (by kernel_rfl) (by kernel_rfl) (by kernel_rfl) (by kernel_rfl) (RgI V W gm X.heap.size k (.int .i64 (NN : Int)) (.slice A1 E.length c1) (.slice A2 l.length c2) Af cf (rowsV NN gf k) (.slice (some ⟨g1, 0, none⟩) NN NN) At ct (rowsV NN gt k) (.slice (some ⟨g2, 0, none⟩) NN NN)) ?h0 ?hs ?he
      case h0 => exact ⟨fun j v hv hD => (by
        have h9 : V j = none := by rw [hV]; show List.getD _ j none = none; rw [List.getD_eq_getElem?_getD, List.getElem?_eq_none (by simpa using hD)]; rfl
        rw [h9] at hv; cases hv), (Touch.refl _ W).drew, fun h => absurd h (by decide), fun h => absurd h (by decide), fun _ => HF.out.grows (Grows.refl W).drew, fun _ => HT.out.grows (Grows.refl W).drew, fun h => absurd h (by decide), fun h => absurd h (by decide), Arr.grow a1 (Grows.refl W).drew⟩
      case hs =>
        intro D g a w1 ht hj hcl i o ho hD hpre K hK
        match i, ho, hD, hpre, hK with
        | 0, ho, hD, hpre, hK =>
          cases (show some _ = some o from ho)
          rw [if_pos (by rfl)]
          have e6 : a.eval (.tmp 6) = .pointer (some ⟨gm, 0, none⟩) := (ht.out 6 (notDst_spec (by kernel_rfl))).trans rfl
          have ne6 := ev_nf e6
          go_simp
          exact hK _ _ (hj.plain (Grows.refl w1) (by decide) (fun u hu => by rw [hV] at hu; exact Option.some.inj (show some _ = some u from hu)))
        | 1, ho, hD, hpre, hK =>
          cases (show some _ = some o from ho)
          rw [if_pos (by rfl)]
          have e6 : a.eval (.tmp 6) = .pointer (some ⟨gm, 0, none⟩) := (ht.out 6 (notDst_spec (by kernel_rfl))).trans rfl
          have ne6 := ev_nf e6
          go_simp
          exact hK _ _ (hj.plain (Grows.refl w1) (by decide) (fun u hu => by rw [hV] at hu; exact Option.some.inj (show some _ = some u from hu)))
        | 2, ho, hD, hpre, hK =>
          cases (show some _ = some o from ho)
          rw [if_pos (by rfl)]
          have e6 : a.eval (.tmp 6) = .pointer (some ⟨gm, 0, none⟩) := (ht.out 6 (notDst_spec (by kernel_rfl))).trans rfl
          have ne6 := ev_nf e6
          go_simp
          exact hK _ _ (hj.plain (Grows.refl w1) (by decide) (fun u hu => by rw [hV] at hu; exact Option.some.inj (show some _ = some u from hu)))
        | 3, ho, hD, hpre, hK =>
          cases (show some _ = some o from ho)
          rw [if_pos (by rfl)]
          have e53 : a.eval (.tmp 53) = .pointer (some ⟨gm, 0, none⟩) := (ht.at_ 2 53 rfl (hpre 2 (by kernel_rfl))).trans (hj.cs 2 _ (by rw [hV]; rfl) (hpre 2 (by kernel_rfl)))
          have ne53 := ev_nf e53
          go_simp
          exact hK _ _ (hj.plain (Grows.refl w1) (by decide) (fun u hu => by rw [hV] at hu; exact Option.some.inj (show some _ = some u from hu)))
        | 4, ho, hD, hpre, hK =>
          cases (show some _ = some o from ho)
          rw [if_pos (by rfl)]
          have e54 : a.eval (.tmp 54) = .pointer (some ⟨gm, 0, none⟩) := (ht.at_ 3 54 rfl (hpre 3 (by kernel_rfl))).trans (hj.cs 3 _ (by rw [hV]; rfl) (hpre 3 (by kernel_rfl)))
          have ne54 := ev_nf e54
          go_simp
          exact hK _ _ (hj.plain (Grows.refl w1) (by decide) (fun u hu => by rw [hV] at hu; exact Option.some.inj (show some _ = some u from hu)))
        | 5, ho, hD, hpre, hK =>
          cases (show some _ = some o from ho)
          rw [if_pos (by rfl)]
          have e55 : a.eval (.tmp 55) = .pointer (some ⟨gm, 3, none⟩) := (ht.at_ 4 55 rfl (hpre 4 (by kernel_rfl))).trans (hj.cs 4 _ (by rw [hV]; rfl) (hpre 4 (by kernel_rfl)))
          have ne55 := ev_nf e55
          have f8 : D 8 = false := by
            cases hh : D 8 with
            | false => rfl
            | true => have := hcl 8 5 hh (by kernel_rfl); simp_all
          have f15 : D 15 = false := by
            cases hh : D 15 with
            | false => rfl
            | true => have := hcl 15 8 hh (by kernel_rfl); simp_all
          have f18 : D 18 = false := by
            cases hh : D 18 with
            | false => rfl
            | true => have := hcl 18 15 hh (by kernel_rfl); simp_all
          have f21 : D 21 = false := by
            cases hh : D 21 with
            | false => rfl
            | true => have := hcl 21 18 hh (by kernel_rfl); simp_all
          have q : Arr w1 gm 102 [.int .i64 (NN : Int), .slice A1 E.length c1, .slice A2 l.length c2, .slice Af k cf, .slice At k ct] := by have := hj.arr; rw [f18, f21] at this; exact this
          go_simp
          exact hK _ _ (hj.plain (Grows.refl w1) (by decide) (fun u hu => by rw [hV] at hu; exact Option.some.inj (show some _ = some u from hu)))
        | 6, ho, hD, hpre, hK =>
          cases (show some _ = some o from ho)
          rw [if_pos (by rfl)]
          have e9 : a.eval (.tmp 9) = .slice (some ⟨g1, 0, none⟩) NN NN := (ht.out 9 (notDst_spec (by kernel_rfl))).trans rfl
          have ne9 := ev_nf e9
          go_simp
          exact hK _ _ (hj.plain (Grows.refl w1) (by decide) (fun u hu => by rw [hV] at hu; exact Option.some.inj (show some _ = some u from hu)))
        | 7, ho, hD, hpre, hK =>
          cases (show some _ = some o from ho)
          rw [if_pos (by rfl)]
          have e57 : a.eval (.tmp 57) = .slice (some ⟨g1, 0, none⟩) NN NN := (ht.at_ 6 57 rfl (hpre 6 (by kernel_rfl))).trans (hj.cs 6 _ (by rw [hV]; rfl) (hpre 6 (by kernel_rfl)))
          have ne57 := ev_nf e57
          go_simp
          exact hK _ _ (hj.lit7 (by rw [hV]; rfl))
        | 8, ho, hD, hpre, hK =>
          cases (show some _ = some o from ho)
          have f15 : D 15 = false := by
            cases hh : D 15 with
            | false => rfl
            | true => have := hcl 15 8 hh (by kernel_rfl); simp_all
          have f18 : D 18 = false := by
            cases hh : D 18 with
            | false => rfl
            | true => have := hcl 18 15 hh (by kernel_rfl); simp_all
          have f21 : D 21 = false := by
            cases hh : D 21 with
            | false => rfl
            | true => have := hcl 21 18 hh (by kernel_rfl); simp_all
          have e56 : a.eval (.tmp 56) = .slice Af k cf := (ht.at_ 5 56 rfl (hpre 5 (by kernel_rfl))).trans (hj.cs 5 _ (by rw [hV]; rfl) (hpre 5 (by kernel_rfl)))
          obtain ⟨b, eb, hb, hbW⟩ := hj.b7 (hpre 7 (by kernel_rfl)) hD
          have el : a.eval (.tmp 58) = .slice (some ⟨b, 0, none⟩) 1 1 := (ht.at_ 7 58 rfl (hpre 7 (by kernel_rfl))).trans eb
          exact step_app elemRow rfl (.tmp 56) (.tmp 58) rfl X.heap.size (Nat.le_trans H2.out hj.touch.size) k cf Af _ e56 (hj.oF hD) b 1 _ el hb rfl (by omega) (fun A' c' w' ho hto hl => hK _ _ (hj.app8 HBB (by rw [hV]; rfl) f15 f18 f21 ho hto hl))
        | 9, ho, hD, hpre, hK =>
          cases (show some _ = some o from ho)
          rw [if_pos (by rfl)]
          have e6 : a.eval (.tmp 6) = .pointer (some ⟨gm, 0, none⟩) := (ht.out 6 (notDst_spec (by kernel_rfl))).trans rfl
          have ne6 := ev_nf e6
          go_simp
          exact hK _ _ (hj.plain (Grows.refl w1) (by decide) (fun u hu => by rw [hV] at hu; exact Option.some.inj (show some _ = some u from hu)))
        | 10, ho, hD, hpre, hK =>
          cases (show some _ = some o from ho)
          rw [if_pos (by rfl)]
          have e60 : a.eval (.tmp 60) = .pointer (some ⟨gm, 0, none⟩) := (ht.at_ 9 60 rfl (hpre 9 (by kernel_rfl))).trans (hj.cs 9 _ (by rw [hV]; rfl) (hpre 9 (by kernel_rfl)))
          have ne60 := ev_nf e60
          go_simp
          exact hK _ _ (hj.plain (Grows.refl w1) (by decide) (fun u hu => by rw [hV] at hu; exact Option.some.inj (show some _ = some u from hu)))
        | 11, ho, hD, hpre, hK =>
          cases (show some _ = some o from ho)
          rw [if_pos (by rfl)]
          have e61 : a.eval (.tmp 61) = .pointer (some ⟨gm, 0, none⟩) := (ht.at_ 10 61 rfl (hpre 10 (by kernel_rfl))).trans (hj.cs 10 _ (by rw [hV]; rfl) (hpre 10 (by kernel_rfl)))
          have ne61 := ev_nf e61
          go_simp
          exact hK _ _ (hj.plain (Grows.refl w1) (by decide) (fun u hu => by rw [hV] at hu; exact Option.some.inj (show some _ = some u from hu)))
        | 12, ho, hD, hpre, hK =>
          cases (show some _ = some o from ho)
          rw [if_pos (by rfl)]
          have e62 : a.eval (.tmp 62) = .pointer (some ⟨gm, 4, none⟩) := (ht.at_ 11 62 rfl (hpre 11 (by kernel_rfl))).trans (hj.cs 11 _ (by rw [hV]; rfl) (hpre 11 (by kernel_rfl)))
          have ne62 := ev_nf e62
          have f15 : D 15 = false := by
            cases hh : D 15 with
            | false => rfl
            | true => have := hcl 15 12 hh (by kernel_rfl); simp_all
          have f18 : D 18 = false := by
            cases hh : D 18 with
            | false => rfl
            | true => have := hcl 18 15 hh (by kernel_rfl); simp_all
          have f21 : D 21 = false := by
            cases hh : D 21 with
            | false => rfl
            | true => have := hcl 21 18 hh (by kernel_rfl); simp_all
          have q : Arr w1 gm 102 [.int .i64 (NN : Int), .slice A1 E.length c1, .slice A2 l.length c2, if D 18 = true then g 8 else .slice Af k cf, .slice At k ct] := by have := hj.arr; rw [f21] at this; exact this
          go_simp
          exact hK _ _ (hj.plain (Grows.refl w1) (by decide) (fun u hu => by rw [hV] at hu; exact Option.some.inj (show some _ = some u from hu)))
        | 13, ho, hD, hpre, hK =>
          cases (show some _ = some o from ho)
          rw [if_pos (by rfl)]
          have e11 : a.eval (.tmp 11) = .slice (some ⟨g2, 0, none⟩) NN NN := (ht.out 11 (notDst_spec (by kernel_rfl))).trans rfl
          have ne11 := ev_nf e11
          go_simp
          exact hK _ _ (hj.plain (Grows.refl w1) (by decide) (fun u hu => by rw [hV] at hu; exact Option.some.inj (show some _ = some u from hu)))
        | 14, ho, hD, hpre, hK =>
          cases (show some _ = some o from ho)
          rw [if_pos (by rfl)]
          have e64 : a.eval (.tmp 64) = .slice (some ⟨g2, 0, none⟩) NN NN := (ht.at_ 13 64 rfl (hpre 13 (by kernel_rfl))).trans (hj.cs 13 _ (by rw [hV]; rfl) (hpre 13 (by kernel_rfl)))
          have ne64 := ev_nf e64
          go_simp
          exact hK _ _ (hj.lit14 (by rw [hV]; rfl))
        | 15, ho, hD, hpre, hK =>
          cases (show some _ = some o from ho)
          have f18 : D 18 = false := by
            cases hh : D 18 with
            | false => rfl
            | true => have := hcl 18 15 hh (by kernel_rfl); simp_all
          have f21 : D 21 = false := by
            cases hh : D 21 with
            | false => rfl
            | true => have := hcl 21 18 hh (by kernel_rfl); simp_all
          have e63 : a.eval (.tmp 63) = .slice At k ct := (ht.at_ 12 63 rfl (hpre 12 (by kernel_rfl))).trans (hj.cs 12 _ (by rw [hV]; rfl) (hpre 12 (by kernel_rfl)))
          obtain ⟨b, eb, hb, hbW⟩ := hj.b14 (hpre 14 (by kernel_rfl)) hD
          have el : a.eval (.tmp 65) = .slice (some ⟨b, 0, none⟩) 1 1 := (ht.at_ 14 65 rfl (hpre 14 (by kernel_rfl))).trans eb
          exact step_app elemRow rfl (.tmp 63) (.tmp 65) rfl X.heap.size (Nat.le_trans H2.out hj.touch.size) k ct At _ e63 (hj.oT hD) b 1 _ el hb rfl (by omega) (fun A' c' w' ho hto hl => hK _ _ (hj.app15 HBB (by rw [hV]; rfl) (hpre 8 (by kernel_rfl)) hD f18 f21 ho hto hl))
        | 16, ho, hD, hpre, hK =>
          cases (show some _ = some o from ho)
          rw [if_pos (by rfl)]
          have e51 : a.eval (.tmp 51) = .pointer (some ⟨gm, 0, none⟩) := (ht.at_ 0 51 rfl (hpre 0 (by kernel_rfl))).trans (hj.cs 0 _ (by rw [hV]; rfl) (hpre 0 (by kernel_rfl)))
          have ne51 := ev_nf e51
          go_simp
          exact hK _ _ (hj.plain (Grows.refl w1) (by decide) (fun u hu => by rw [hV] at hu; exact Option.some.inj (show some _ = some u from hu)))
        | 17, ho, hD, hpre, hK =>
          cases (show some _ = some o from ho)
          rw [if_pos (by rfl)]
          have e67 : a.eval (.tmp 67) = .pointer (some ⟨gm, 0, none⟩) := (ht.at_ 16 67 rfl (hpre 16 (by kernel_rfl))).trans (hj.cs 16 _ (by rw [hV]; rfl) (hpre 16 (by kernel_rfl)))
          have ne67 := ev_nf e67
          go_simp
          exact hK _ _ (hj.plain (Grows.refl w1) (by decide) (fun u hu => by rw [hV] at hu; exact Option.some.inj (show some _ = some u from hu)))
        | 18, ho, hD, hpre, hK =>
          cases (show some _ = some o from ho)
          rw [if_pos (by rfl)]
          have e68 : a.eval (.tmp 68) = .pointer (some ⟨gm, 3, none⟩) := (ht.at_ 17 68 rfl (hpre 17 (by kernel_rfl))).trans (hj.cs 17 _ (by rw [hV]; rfl) (hpre 17 (by kernel_rfl)))
          have ne68 := ev_nf e68
          have ev : a.eval (.tmp 59) = g 8 := ht.at_ 8 59 rfl (hpre 8 (by kernel_rfl))
          have h15 := hpre 15 (by kernel_rfl)
          have h8 := hpre 8 (by kernel_rfl)
          obtain ⟨Ax, cx, ex, _⟩ := hj.o3 h8
          rw [ex] at ev
          have nev := ev_nf ev
          have q := hj.arr
          go_simp
          have := hj.set (i := 18) (f := 3) (u := g 8) (v := undef) (.inl ⟨rfl, rfl, rfl⟩) (by rw [hV]; rfl) h8 h15
          rw [ex] at this
          exact hK _ _ this
        | 19, ho, hD, hpre, hK =>
          cases (show some _ = some o from ho)
          rw [if_pos (by rfl)]
          have e52 : a.eval (.tmp 52) = .pointer (some ⟨gm, 0, none⟩) := (ht.at_ 1 52 rfl (hpre 1 (by kernel_rfl))).trans (hj.cs 1 _ (by rw [hV]; rfl) (hpre 1 (by kernel_rfl)))
          have ne52 := ev_nf e52
          go_simp
          exact hK _ _ (hj.plain (Grows.refl w1) (by decide) (fun u hu => by rw [hV] at hu; exact Option.some.inj (show some _ = some u from hu)))
        | 20, ho, hD, hpre, hK =>
          cases (show some _ = some o from ho)
          rw [if_pos (by rfl)]
          have e69 : a.eval (.tmp 69) = .pointer (some ⟨gm, 0, none⟩) := (ht.at_ 19 69 rfl (hpre 19 (by kernel_rfl))).trans (hj.cs 19 _ (by rw [hV]; rfl) (hpre 19 (by kernel_rfl)))
          have ne69 := ev_nf e69
          go_simp
          exact hK _ _ (hj.plain (Grows.refl w1) (by decide) (fun u hu => by rw [hV] at hu; exact Option.some.inj (show some _ = some u from hu)))
        | 21, ho, hD, hpre, hK =>
          cases (show some _ = some o from ho)
          rw [if_pos (by rfl)]
          have e70 : a.eval (.tmp 70) = .pointer (some ⟨gm, 4, none⟩) := (ht.at_ 20 70 rfl (hpre 20 (by kernel_rfl))).trans (hj.cs 20 _ (by rw [hV]; rfl) (hpre 20 (by kernel_rfl)))
          have ne70 := ev_nf e70
          have ev : a.eval (.tmp 66) = g 15 := ht.at_ 15 66 rfl (hpre 15 (by kernel_rfl))
          have h15 := hpre 15 (by kernel_rfl)
          have h8 := hcl 15 8 h15 (by kernel_rfl)
          obtain ⟨Ax, cx, ex, _⟩ := hj.o4 h15
          rw [ex] at ev
          have nev := ev_nf ev
          have q := hj.arr
          go_simp
          have := hj.set (i := 21) (f := 4) (u := g 15) (v := undef) (.inr ⟨rfl, rfl, rfl⟩) (by rw [hV]; rfl) h8 h15
          rw [ex] at this
          exact hK _ _ this
        | n + 22, ho, _, _, _ => simp at ho
      case he =>
        intro D g w1 hj hD
        obtain ⟨A3, c3, e3, o3, _⟩ := hj.o3 (hD 8 (by decide))
        obtain ⟨A4, c4, e4, o4, ap⟩ := hj.o4 (hD 15 (by decide))
        have q := hj.arr
        rw [hD 18 (by decide), hD 21 (by decide), if_pos rfl, if_pos rfl, e3, e4] at q
        have HNX := hide (mk_next HGMX.out HTX.out a1.ty HF.out HT.out HRF.out HRT.out HK1.out HK2.out hj.touch q o3 o4 (ap A3 c3 e3))
        clear hj q o3 o4 ap
        simp only [putAll, dstOf, List.length_cons, List.length_nil, Nat.reduceAdd, List.getElem?_cons_succ, List.getElem?_cons_zero, Option.bind_some, Act.put, List.setIfInBounds_toArray, List.set_cons_zero, List.set_cons_succ]
        go_wp2_with fail
        go_roundw
        case measure => simp [Go.RowKit.intOf]; omega
        case rel => exact ⟨k + 1, by omega, by go_num, HNX.out⟩
    · obtain rfl : k = l.length := by omega
      have hdk : decide ((l.length : Int) < (l.length : Int)) = false := decide_eq_false (by omega)
      obtain ⟨Af, cf, At, ct, gf, gt, a0, hO1, hO2, hRf, hRt, _⟩ := HIN.out.is
      have hr1 := HR1.out.touch HIN.out.touch (fun p hp e => by have := HL1.out p hp; omega)
      have hr2 := HR2.out.touch HIN.out.touch (fun p hp e => by have := HL2.out p hp; omega)
      have HMK := hide (show MkAt wr gm NN E l F T from ⟨A1, c1, A2, c2, Af, cf, At, ct, gf, gt, a0, hr1, hr2, hO1.rd, hO2.rd, hRf, hRt⟩)
      clear a0 hO1 hO2 hRf hRt hr1 hr2 HIN HR1 HR2 HL1 HL2 bX bW
      go_wp2_with fail
      refine bodyPost_ret (v := .tuple #[.pointer (some ⟨gm, 0, none⟩), .int .i64 0]) (by simp (maxDischargeDepth := 6) [results, Try.results15, go_sem, *]) rfl ?_
      exact ⟨gm, rfl, HMK.out, HGW.out⟩
end Go.Proofs.Ytiljgkaffgclgaa

/- Plain law: what landmarks tell is consistent, and admissible, and how far it is lies between both that are told. -/
namespace Go.Proofs.Ytiljgkaffgclgaa
open Go Go.RowKit
theorem Way.join {x : Srch} {s v t f g : Nat} (h : Way x s v f) (k : Way x v t g) : Way x s t (f + g) := by
  induction k with
  | here => exact h
  | @step g i k hi hc ih =>
    have := Way.step ih hi hc
    rwa [Nat.add_assoc] at this
section
variable {NN : Nat} {E : List Edg} {F T : Nat → List Nat}
theorem net_bound (hr : rightF NN E = 0) : NN * 17592186044416 ≤ 72057594037927936 := by
  obtain ⟨_, r2, _⟩ := right_in hr
  have : NN * 17592186044416 ≤ 4096 * 17592186044416 := Nat.mul_le_mul_right _ (by omega)
  omega
theorem Mks.fin (h : Mks NN E F T) (hr : rightF NN E = 0) {u v : Nat} (hu : u < NN) (hv : v < NN) (hf : gn (F u) v < farV) : gn (F u) v ≤ 72057594037927936 := by
  obtain ⟨xs, hx, e⟩ := h.f u hu
  have hb := net_bound hr
  rw [e] at hf ⊢
  rcases outL_cases (x := srchOf NN E (allO false)) hx.far (by show NN * _ < _; unfold farV; omega) hv with ⟨h1, _⟩ | ⟨h1, _⟩
  · have h2 : gn (outL NN xs) v ≤ NN * 17592186044416 := (hx.far.way _ _ h1).2.2.2
    omega
  · have h2 : gn (outL NN xs) v = farV := h1
    omega
theorem Mks.tri (h : Mks NN E F T) (hr : rightF NN E = 0) {u v t : Nat} (hu : u < NN) (hv : v < NN) (ht : t < NN) (h1 : gn (F u) v < farV) (h2 : gn (F v) t < farV) : gn (F u) t ≤ gn (F u) v + gn (F v) t ∧ gn (F u) t < farV := by
  obtain ⟨xs, hx, e⟩ := h.f u hu
  obtain ⟨ys, hy, e2⟩ := h.f v hv
  have hb := net_bound hr
  have hbf : (srchOf NN E (allO false)).N * 17592186044416 < farV := by show NN * _ < _; unfold farV; omega
  rw [e] at h1 ⊢
  rw [e2] at h2 ⊢
  rcases outL_cases (x := srchOf NN E (allO false)) hx.far hbf hv with ⟨k1, _⟩ | ⟨k1, _⟩
  · rcases outL_cases (x := srchOf NN E (allO false)) hy.far hbf ht with ⟨k2, _⟩ | ⟨k2, _⟩
    · obtain ⟨g, hg, hle⟩ := hx.far.all _ _ ((hx.far.way _ _ k1).2.1.join (hy.far.way _ _ k2).2.1) (fun h0 => absurd h0 (by show ¬ (0 : Nat) < 0; omega))
      have e3 : gn (outL NN xs) t = g := outL_at hx.far.nodup ht hg
      have e4 : g ≤ NN * 17592186044416 := (hx.far.way _ _ hg).2.2.2
      rw [e3]
      exact ⟨hle, by unfold farV; omega⟩
    · have k3 : gn (outL NN ys) t = farV := k2
      omega
  · have k3 : gn (outL NN xs) v = farV := k1
    omega
theorem Mks.self (h : Mks NN E F T) {u : Nat} (hu : u < NN) : gn (F u) u = 0 := by
  obtain ⟨xs, hx, e⟩ := h.f u hu
  rw [e]
  exact hx.far.begin_ hu
/-- One edge: how far its ends lie apart. -/
theorem Mks.hop (h : Mks NN E F T) (hr : rightF NN E = 0) {i : Nat} (hi : i < E.length) : fN E i < NN ∧ tN E i < NN ∧ gn (F (fN E i)) (tN E i) ≤ gn (wtF NN E []) i ∧ gn (F (fN E i)) (tN E i) < farV := by
  obtain ⟨r1, _, _⟩ := right_in hr
  have hb := net_bound hr
  have hbf : (srchOf NN E (allO false)).N * 17592186044416 < farV := by show NN * _ < _; unfold farV; omega
  have hends : fN E i < NN ∧ tN E i < NN := by
    obtain ⟨xs, hx, _⟩ := h.f 0 (by omega)
    exact ⟨(hx.ok.srch.ends.f i hi).1, (hx.ok.srch.ends.t i hi).1⟩
  obtain ⟨xs, hx, e⟩ := h.f (fN E i) hends.1
  have h1 := hx.far.edge (i := i) hbf rfl hends.1 hends.2 hi (by simp [cntE, srchOf, allO]) (by
    have : gn (outL NN xs) (fN E i) = 0 := hx.far.begin_ hends.1
    show gn (outL NN xs) (fN E i) < farV
    rw [this]; unfold farV; omega)
  have h0 : gn (outL NN xs) (fN E i) = 0 := hx.far.begin_ hends.1
  have h2 : gn (outL NN xs) (tN E i) ≤ gn (outL NN xs) (fN E i) + gn (wtF NN E []) i := h1
  have h3 : gn (wtF NN E []) i ≤ 17592186044416 := hx.wb i hi
  rw [e]
  refine ⟨hends.1, hends.2, by omega, by unfold farV; omega⟩
theorem lessN_a {a b b' w : Nat} (h : b < farV → b' ≤ b + w ∧ b' < farV) : lessN a b ≤ lessN a b' + w := by
  unfold lessN farV at *
  split
  · omega
  · split <;> split <;> (try split) <;> omega
theorem lessN_b {c c' d w : Nat} (h : c' < farV → c ≤ c' + w ∧ c < farV) (h2 : c < farV → c ≤ 72057594037927936) : lessN c d ≤ lessN c' d + w := by
  unfold lessN farV at *
  split
  · omega
  · split <;> split <;> (try split) <;> omega
theorem lessN_c {a b w : Nat} (h : b < farV → a ≤ b + w ∧ a < farV) : lessN a b ≤ w := by
  unfold lessN farV at *
  split
  · omega
  · split <;> omega
variable {l : List Nat}
/-- What landmarks tell is consistent. -/
theorem bnd_step (h : Mks NN E F T) (hr : rightF NN E = 0) {i t : Nat} (hi : i < E.length) (ht : t < NN) : ∀ k, k ≤ l.length → (∀ j, j < l.length → gn l j < NN) → bndT F T l (fN E i) t k ≤ bndT F T l (tN E i) t k + gn (wtF NN E []) i
  | 0, _, _ => Nat.zero_le _
  | k + 1, hk, hn => by
    have ih := bnd_step h hr hi ht k (by omega) hn
    obtain ⟨hf, hto, hw, hw2⟩ := h.hop hr hi
    have hx := hn k (by omega)
    have h1 := lessN_a (a := gn (F (gn l k)) t) (b := gn (F (gn l k)) (fN E i)) (b' := gn (F (gn l k)) (tN E i)) (w := gn (wtF NN E []) i) (fun hb => by
      have := h.tri hr hx hf hto hb hw2
      omega)
    have h2 := lessN_b (c := gn (T (gn l k)) (fN E i)) (c' := gn (T (gn l k)) (tN E i)) (d := gn (T (gn l k)) t) (w := gn (wtF NN E []) i) (fun hb => by
      rw [h.turn _ _ hto hx] at hb
      rw [h.turn _ _ hf hx, h.turn _ _ hto hx]
      have := h.tri hr hf hto hx hw2 hb
      omega) (fun hb => by
      rw [h.turn _ _ hf hx] at hb ⊢
      exact h.fin hr hf hx hb)
    show max (max _ _) _ ≤ max (max _ _) _ + _
    omega
/-- What landmarks tell is admissible. -/
theorem bnd_le (h : Mks NN E F T) (hr : rightF NN E = 0) {v t : Nat} (hv : v < NN) (ht : t < NN) (hd : gn (F v) t < farV) : ∀ k, k ≤ l.length → (∀ j, j < l.length → gn l j < NN) → bndT F T l v t k ≤ gn (F v) t
  | 0, _, _ => Nat.zero_le _
  | k + 1, hk, hn => by
    have ih := bnd_le h hr hv ht hd k (by omega) hn
    have hx := hn k (by omega)
    have h1 := lessN_c (a := gn (F (gn l k)) t) (b := gn (F (gn l k)) v) (w := gn (F v) t) (fun hb => h.tri hr hx hv ht hb hd)
    have h2 := lessN_c (a := gn (T (gn l k)) v) (b := gn (T (gn l k)) t) (w := gn (F v) t) (fun hb => by
      rw [h.turn _ _ ht hx] at hb
      rw [h.turn _ _ hv hx, h.turn _ _ ht hx]
      have := h.tri hr hv ht hx hd hb
      omega)
    show max (max _ _) _ ≤ _
    omega
theorem abv_ge (h : Mks NN E F T) (hr : rightF NN E = 0) {v t : Nat} (hv : v < NN) (ht : t < NN) : ∀ k, k ≤ l.length → (∀ j, j < l.length → gn l j < NN) → gn (F v) t ≤ abvT F T l v t k
  | 0, _, _ => h.le v t hv ht
  | k + 1, hk, hn => by
    have ih := abv_ge h hr hv ht k (by omega) hn
    have hx := hn k (by omega)
    have hle := h.le v t hv ht
    have h1 : gn (F v) t ≤ gn (T (gn l k)) v + gn (F (gn l k)) t := by
      rw [h.turn _ _ hv hx]
      by_cases hb : gn (F v) (gn l k) < farV
      · by_cases hc : gn (F (gn l k)) t < farV
        · exact (h.tri hr hv hx ht hb hc).1
        · omega
      · omega
    show _ ≤ min _ _
    omega
/-- What landmarks tell is no more than 2^60. -/
theorem bnd_top (h : Mks NN E F T) (hr : rightF NN E = 0) {v t : Nat} (hv : v < NN) (ht : t < NN) : ∀ k, k ≤ l.length → (∀ j, j < l.length → gn l j < NN) → bndT F T l v t k ≤ 1152921504606846976
  | 0, _, _ => Nat.zero_le _
  | k + 1, hk, hn => by
    have ih := bnd_top h hr hv ht k (by omega) hn
    have hx := hn k (by omega)
    have top : ∀ a b, (a < farV → a ≤ 72057594037927936) → lessN a b ≤ 1152921504606846976 := fun a b hab => by
      unfold lessN farV at *
      split
      · omega
      · split <;> omega
    have h1 := top (gn (F (gn l k)) t) (gn (F (gn l k)) v) (h.fin hr hx ht)
    have h2 := top (gn (T (gn l k)) v) (gn (T (gn l k)) t) (by rw [h.turn _ _ hv hx]; exact h.fin hr hv hx)
    show max (max _ _) _ ≤ _
    omega
end
end Go.Proofs.Ytiljgkaffgclgaa

/- The chapter's example of landmarks: two nodes, one edge. -/
namespace Go.Proofs.Ytiljgkaffgclgaa
open Go Go.RowKit
def mkE : List Edg := [⟨0, 1, 3⟩]
theorem mkE_ok : MarkOk 2 mkE [1] := ⟨by decide +kernel, fun i hi => by
  have : i = 0 := by have h : i < 1 := hi; omega
  subst this
  decide⟩
def mkDist (v : Nat) : Nat := if v = 1 then 3 else 0
theorem mkE_far {F T : Nat → List Nat} (hM : Mks 2 mkE F T) : gn (F 0) 1 = 3 := by
  have hw : wtF ((2 : Nat) : Int) mkE [] = [3] := by decide +kernel
  obtain ⟨xs, hx, e⟩ := hM.f 0 (by omega)
  have hww : ∀ j, gn (srchOf 2 mkE (allO false)).W j = gn [3] j := fun j => by show gn (wtF ((2 : Nat) : Int) mkE []) j = _; rw [hw]
  have w1 : Way (srchOf 2 mkE (allO false)) 0 1 3 := by
    have := Way.step (x := srchOf 2 mkE (allO false)) (s := 0) (f := 0) (i := 0) (by exact Way.here) (by decide) (by decide)
    rw [hww] at this
    exact this
  rw [e]
  exact hx.far.is (v := 1) rfl (by show 1 < 2; omega) w1 (fun g hg => Way.ge (x := srchOf 2 mkE (allO false)) mkDist rfl (fun i hi => by
    have hi : i < 1 := hi
    rw [hww]
    match i, hi with
    | 0, _ => decide) hg)
theorem mkE_bnd {F T : Nat → List Nat} (hM : Mks 2 mkE F T) : bndT F T [1] 0 1 1 = 3 := by
  have h0 := mkE_far hM
  have h1 := hM.self (u := 1) (by omega)
  have h2 := hM.turn 0 1 (by omega) (by omega)
  have h3 := hM.turn 1 1 (by omega) (by omega)
  show max (max 0 (lessN (gn (F 1) 1) (gn (F 1) 0))) (lessN (gn (T 1) 0) (gn (T 1) 1)) = 3
  rw [h1, h2, h3, h0, h1]
  have e1 : lessN 0 (gn (F 1) 0) = 0 := if_pos (.inr (Nat.zero_le _))
  rw [e1]
  decide
set_option maxRecDepth 20000 in
set_option maxHeartbeats 4000000 in
theorem alive46 (w : World) : Calls Try.prog 14 #[] w fun e w' => e = .returned (.bool true) ∧ Grows w w' := by
  obtain ⟨F, T, hM⟩ := mks_any (NN := 2) (E := mkE) mkE_ok.right
  have C1 := hide (fun (W : World) (A B : Option Addr) (h : Rd W A 3 1 (esCells mkE)) (h2 : Rd W B 1 1 [.int .i64 1]) => show Calls Try.prog 15 #[.agg #[.int .i64 2, .slice A 1 1], .slice B 1 1] W fun e w' => ∃ gm, e = .returned (.tuple #[.pointer (some ⟨gm, 0, none⟩), .int .i64 0]) ∧ MkAt w' gm 2 mkE [1] F T ∧ Grows W w' from
    mkNew 2 A 1 mkE B 1 [1] F T hM mkE_ok W h h2 (by decide))
  have C2 := hide (fun (gm : Nat) (W : World) (h : MkAt W gm 2 mkE [1] F T) => show Calls Try.prog 18 #[.pointer (some ⟨gm, 0, none⟩), .int .i64 0, .int .i64 1] W fun e w' => e = .returned (.tuple #[.int .u64 3, .bool true]) ∧ Grows W w' from by
    have := mkBound 2 gm mkE [1] F T hM mkE_ok 0 1 (by omega) (by omega) W h (by decide)
    have e1 : bndT F T [1] 0 1 ([1] : List Nat).length = 3 := mkE_bnd hM
    rw [e1] at this
    exact this)
  clear hM
  go_enter Try.func14, Try.ntmps14
  go_wp2_with fail
  refine (C1.out _ _ _ ((Rd.made (w := w) (t := 77) (size := 3) (n := 1) (esCells mkE) rfl).new _) (by
    have := Rd.made (w := w.alloc (.cells #[.int .i64 0, .int .i64 1, .int .u64 3] 77)) (t := 3) (size := 1) (n := 1) [.int .i64 1] rfl
    rw [show (w.alloc (.cells #[.int .i64 0, .int .i64 1, .int .u64 3] 77)).heap.size = w.heap.size + 1 by simp] at this
    exact this)).mono ?_
  rintro e w' ⟨gm, rfl, hmk, hg⟩
  have HMK := hide hmk
  obtain ⟨x1, rfl⟩ := Grows.later (Grows.trans (show Grows w _ from (by repeat (first | exact Grows.refl _ | refine Grows.now ?_ _ | refine Grows.new ?_ _ | refine Grows.drewN ?_ _ | refine Grows.drew ?_ | assumption | (refine Grows.set ?_ (by first | omega | (simp; done) | (simp; omega)) _)))) hg)
  clear hmk hg
  go_wp2_with fail
  refine (C2.out _ _ HMK.out).mono ?_
  rintro e w' ⟨rfl, hg⟩
  obtain ⟨x2, rfl⟩ := hg.later
  clear hg
  go_wp2_with fail
  go_ret
  exact ⟨rfl, (by repeat (first | exact Grows.refl _ | refine Grows.now ?_ _ | refine Grows.new ?_ _ | refine Grows.drewN ?_ _ | refine Grows.drew ?_ | assumption | (refine Grows.set ?_ (by first | omega | (simp; done) | (simp; omega)) _)))⟩
end Go.Proofs.Ytiljgkaffgclgaa

/- Contract: are two rows of numbers the same? -/
namespace Go.Proofs.Ytiljgkaffgclgaa
open Go Go.RowKit
set_option maxHeartbeats 1000000 in
theorem r1Same (A : Option Addr) (n c : Nat) (l : List Int) (B : Option Addr) (m d : Nat) (l' : List Int) (w : World) (h : Rd w A 1 n (l.map (.int .i64))) (hn : n ≤ 1000000) (h' : Rd w B 1 m (l'.map (.int .i64))) (hm : m ≤ 1000000) :
    Calls Try.prog 23 #[.slice A n c, .slice B m d] w fun e w' => e = .returned (.bool (decide (l = l'))) ∧ Grows w w' := by
  have HL := hide (show l.length = n by simpa using h.len)
  have HM := hide (show l'.length = m by simpa using h'.len)
  have HR := hide h
  have HS := hide h'
  clear h h'
  by_cases hnm : n = m
  · subst hnm
    go_enter Try.func23, Try.ntmps23
    go_wp2
    go_loopw [5] (fun i wr => ∃ k : Nat, k ≤ n ∧ i = .int .i64 (k : Int) ∧ (∃ y : Later w, wr = y.now) ∧ ∀ j, j < k → gi l j = gi l' j) (fun i _ => n - (intOf i).toNat)
    case atStart => exact ⟨0, by omega, by go_num, ⟨⟨w, Grows.refl w⟩, rfl⟩, fun j h => by omega⟩
    case round =>
      obtain ⟨k, hk, rfl, ⟨y, rfl⟩, hall⟩ := hrel
      have HA := hide hall
      clear hall
      by_cases hend : n ≤ k
      · have HV : Hid (l = l') := by
          apply List.ext_getElem (by rw [HL.out, HM.out])
          intro j h1 h2
          have := HA.out j (by have := HL.out; omega)
          simpa [gi, h1, h2] using this
        go_wp2
        go_ret
        exact ⟨ret_bool (decide_eq_true HV.out).symm, (by repeat (first | exact Grows.refl _ | refine Grows.now ?_ _ | refine Grows.new ?_ _ | refine Grows.drewN ?_ _ | refine Grows.drew ?_ | assumption | (refine Grows.set ?_ (by first | omega | (simp; done) | (simp; omega)) _)))⟩
      · obtain ⟨b, off, rfl, hc⟩ := HR.out.intsH (by omega)
        obtain ⟨b2, off2, rfl, hc2⟩ := HS.out.intsH (by omega)
        have c1 := hc k (by omega)
        have c2 := hc2 k (by omega)
        clear hc hc2
        by_cases he : gi l k = gi l' k
        · have HE : Hid (∀ j, j < k + 1 → gi l j = gi l' j) := fun j hj => by
            by_cases e : j = k
            · rw [e]; exact he
            · exact HA.out j (by omega)
          have hd : (gi l k == gi l' k) = true := by simpa using he
          clear he
          generalize gi l k = u at *
          generalize gi l' k = v at *
          go_wp2_with fail
          ((first | refine wp_region_gen (by kernel_rfl) (by kernel_rfl) ?_); (repeat' (first | (refine gLex_val0 rfl (by kernel_rfl) (fun K hK => ?_); (go_simp; (try (simp only [↓IntWalk.iteOmega]; try go_simp)); (try simp (disch := omega) only [IntWalk.i64_in]); (try simp (disch := omega) only [IntWalk.u64_in]); first | (refine hK _ ?_; clear hK K) | (apply Exists.intro; refine ⟨fun x => ?_, hK _ ?_⟩; (first | fail); clear hK K))) | (refine gLex_undef rfl rfl rfl (by kernel_rfl) (fun K hK => ?_); go_simp; refine hK _ ?_; clear hK K) | (refine gLex_ask rfl rfl rfl ?_; first | (apply gAsk_yes; kernel_rfl; intro K hK; (go_simp; (try (simp only [↓IntWalk.iteOmega]; try go_simp)); (try simp (disch := omega) only [IntWalk.i64_in]); (try simp (disch := omega) only [IntWalk.u64_in]); first | (refine hK _ ?_; clear hK K) | (apply Exists.intro; refine ⟨fun x => ?_, hK _ ?_⟩; (first | fail); clear hK K))) | ((first | apply gAsk_no1 | apply gAsk_no2); kernel_rfl; intro K hK; simp [go_sem]; refine hK _ ?_; clear hK K) | (apply gAsk_part; kernel_rfl; all_goals (intro h K hK; (try simp only [Bool.not_true] at h); (try simp only [Bool.not_false] at h); (try simp only [decide_eq_true_eq] at h); (try simp only [decide_eq_false_iff_not] at h); first | (exfalso; first | contradiction | omega) | (go_simp; (try (simp only [↓IntWalk.iteOmega]; try go_simp)); (try simp (disch := omega) only [IntWalk.i64_in]); (try simp (disch := omega) only [IntWalk.u64_in]); first | (refine hK _ ?_; clear hK K) | (apply Exists.intro; refine ⟨fun x => ?_, hK _ ?_⟩; (first | fail); clear hK K))))))); all_goals ((apply gLex_end); intro x))
          go_wp2
          refine ⟨⟨k + 1, by omega, by go_num, Grows.later (by repeat (first | exact Grows.refl _ | refine Grows.now ?_ _ | refine Grows.new ?_ _ | refine Grows.drewN ?_ _ | refine Grows.drew ?_ | assumption | (refine Grows.set ?_ (by first | omega | (simp; done) | (simp; omega)) _))), HE.out⟩, by simp [intOf]; omega⟩
        · have HV : Hid (¬ l = l') := fun e => he (by rw [e])
          have hd : (gi l k == gi l' k) = false := by simpa using he
          clear he
          go_wp2_with fail
          ((first | refine wp_region_gen (by kernel_rfl) (by kernel_rfl) ?_); (repeat' (first | (refine gLex_val0 rfl (by kernel_rfl) (fun K hK => ?_); (go_simp; (try (simp only [↓IntWalk.iteOmega]; try go_simp)); (try simp (disch := omega) only [IntWalk.i64_in]); (try simp (disch := omega) only [IntWalk.u64_in]); first | (refine hK _ ?_; clear hK K) | (apply Exists.intro; refine ⟨fun x => ?_, hK _ ?_⟩; (first | fail); clear hK K))) | (refine gLex_undef rfl rfl rfl (by kernel_rfl) (fun K hK => ?_); go_simp; refine hK _ ?_; clear hK K) | (refine gLex_ask rfl rfl rfl ?_; first | (apply gAsk_yes; kernel_rfl; intro K hK; (go_simp; (try (simp only [↓IntWalk.iteOmega]; try go_simp)); (try simp (disch := omega) only [IntWalk.i64_in]); (try simp (disch := omega) only [IntWalk.u64_in]); first | (refine hK _ ?_; clear hK K) | (apply Exists.intro; refine ⟨fun x => ?_, hK _ ?_⟩; (first | fail); clear hK K))) | ((first | apply gAsk_no1 | apply gAsk_no2); kernel_rfl; intro K hK; simp [go_sem]; refine hK _ ?_; clear hK K) | (apply gAsk_part; kernel_rfl; all_goals (intro h K hK; (try simp only [Bool.not_true] at h); (try simp only [Bool.not_false] at h); (try simp only [decide_eq_true_eq] at h); (try simp only [decide_eq_false_iff_not] at h); first | (exfalso; first | contradiction | omega) | (go_simp; (try (simp only [↓IntWalk.iteOmega]; try go_simp)); (try simp (disch := omega) only [IntWalk.i64_in]); (try simp (disch := omega) only [IntWalk.u64_in]); first | (refine hK _ ?_; clear hK K) | (apply Exists.intro; refine ⟨fun x => ?_, hK _ ?_⟩; (first | fail); clear hK K))))))); all_goals ((apply gLex_end); intro x))
          go_wp2
          go_ret
          exact ⟨ret_bool (decide_eq_false HV.out).symm, (by repeat (first | exact Grows.refl _ | refine Grows.now ?_ _ | refine Grows.new ?_ _ | refine Grows.drewN ?_ _ | refine Grows.drew ?_ | assumption | (refine Grows.set ?_ (by first | omega | (simp; done) | (simp; omega)) _)))⟩
  · have HV : Hid (¬ l = l') := fun e => hnm (by rw [← HL.out, ← HM.out, e])
    have hd : ((n : Int) == (m : Int)) = false := beq_eq_false_iff_ne.2 (by omega)
    go_enter Try.func23, Try.ntmps23
    go_wp2
    go_ret
    exact ⟨ret_bool (decide_eq_false HV.out).symm, (by repeat (first | exact Grows.refl _ | refine Grows.now ?_ _ | refine Grows.new ?_ _ | refine Grows.drewN ?_ _ | refine Grows.drew ?_ | assumption | (refine Grows.set ?_ (by first | omega | (simp; done) | (simp; omega)) _)))⟩
end Go.Proofs.Ytiljgkaffgclgaa
