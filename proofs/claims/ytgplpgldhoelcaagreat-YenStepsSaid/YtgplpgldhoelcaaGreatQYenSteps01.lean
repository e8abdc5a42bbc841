/- The law YenSteps: for every input it returns true, and each argument reads as before. No condition. -/
import Derived.Orders
import Derived.Still
import Derived.Below
import Derived.Calls
import Derived.WalkKit
import Derived.WalkSpells
import Derived.WalkLawsBesides
import Derived.BigQuiet
import Derived.Deep.RegionWith
import Derived.Test.YtgplpgldhoelcaaGreatRows
import Derived.RangeFuncRecord
import Derived.Laws.OwnMore
import Derived.ProofKit
import Derived.OpenShut
import Derived.ShutString
import Derived.ChangeOld
import Derived.Lib.SmallJoins
import Derived.Deep.Slices
import Derived.Maps.Own
import Derived.Maps.OwnOps
import Derived.Maps.OwnSet
import Derived.Maps.Views
import Derived.OwnWalk
import Derived.Lib.AppendZeros
import Derived.Deep.OwnRows
import Derived.StillTail
import Derived.Shelf.Bits.Mul64
import Derived.Ground.Names2Prog
import Derived.Shelf.Slices.Clone
import Derived.Ground.SlgnProg
import Derived.Shelf.SlicesE.Clone
import Derived.Test.YtgplpgldhoelcaaGreatProg
import Derived.Deep.DeepCutAuto
import Derived.RangeFuncSeq
import Derived.RangeFuncLeaves
import Derived.RangeFuncCalls
import Derived.WalkMore
import Derived.Maps.AppendAt
import Derived.Lib.SliceRun
import Derived.OrdersIn
import Derived.TacticsIn
import Derived.RangeFuncNested
import Derived.RangeFuncBound
import Derived.Shelf.Abstract
import Derived.Shelf.RegionOpen
import Derived.OwnWalkIn
import Derived.TacticsInMore
import Derived.LoopNIn
import Derived.LoopIn
import Derived.Laws.CopyOwn
import Derived.Deep.RegionLaw
import Derived.Deep.Strs
import Derived.ScopeJumps
import Derived.Test.YtgplpgldhoelcaaGreatQYenWays00
import Derived.Test.YtgplpgldhoelcaaGreatQYenWays01
import Derived.Test.YtgplpgldhoelcaaGreatQYenWays02
import Derived.Test.YtgplpgldhoelcaaGreatQYenWays03
import Derived.Test.YtgplpgldhoelcaaGreatQYenWays04
import Derived.Test.YtgplpgldhoelcaaGreatQYenWays05
import Derived.Test.YtgplpgldhoelcaaGreatQYenWays06
import Derived.Test.YtgplpgldhoelcaaGreatQYenWays07
import Derived.Test.YtgplpgldhoelcaaGreatQYenWays08
import Derived.Test.YtgplpgldhoelcaaGreatQYenWays09
import Derived.Test.YtgplpgldhoelcaaGreatQYenWays10
import Derived.Test.YtgplpgldhoelcaaGreatQYenWays11
import Derived.Test.YtgplpgldhoelcaaGreatQYenWays12
import Derived.Test.YtgplpgldhoelcaaGreatQYenWays13
import Derived.Test.YtgplpgldhoelcaaGreatQYenWays14
import Derived.Test.YtgplpgldhoelcaaGreatQYenWays15
import Derived.Test.YtgplpgldhoelcaaGreatQYenWays16
import Derived.Test.YtgplpgldhoelcaaGreatQYenWays17
import Derived.Test.YtgplpgldhoelcaaGreatQYenWays18
import Derived.Test.YtgplpgldhoelcaaGreatQYenWays19
import Derived.Test.YtgplpgldhoelcaaGreatQYenWays20
import Derived.Test.YtgplpgldhoelcaaGreatQYenWays21
import Derived.Test.YtgplpgldhoelcaaGreatQYenWays22
import Derived.Test.YtgplpgldhoelcaaGreatQYenWays23
import Derived.Test.YtgplpgldhoelcaaGreatQYenWays24
import Derived.Test.YtgplpgldhoelcaaGreatQYenSteps00
namespace Go.Proofs.YtgplpgldhoelcaaGreat
open Go Go.RowKit
attribute [local go_sem] Oper.semAt_some
structure StpI (w0 : Nat) (w : World) (b N : Nat) (E : List Edg) (s t : Nat) (Ag : Option Addr) (cg : Nat) (T all : List (List Nat)) (A : Option Addr) (c : Nat) (rs : List Rt) : Prop where
  out : RtsAt w w0 A c rs (rtW E all)
  yen : ∃ At ct rsT Aw cw rsW W, YnAt w b N E s t Ag cg At ct rsT T Aw cw rsW W ∧ YOk E s t T W ∧ (∀ p, (At = some p ∨ Aw = some p) → w0 ≤ p.block) ∧ ∀ p q, A = some p → (At = some q ∨ Aw = some q) → p.block ≠ q.block
theorem StpI.grow {w0 : Nat} {w w' : World} {b N : Nat} {E : List Edg} {s t : Nat} {Ag : Option Addr} {cg : Nat} {T all : List (List Nat)} {A : Option Addr} {c : Nat} {rs : List Rt} (h : StpI w0 w b N E s t Ag cg T all A c rs) (hg : Grows w w') : StpI w0 w' b N E s t Ag cg T all A c rs := by
  obtain ⟨h1, At, ct, rsT, Aw, cw, rsW, W, h2, h3, h4, h5⟩ := h
  exact ⟨h1.grows hg, At, ct, rsT, Aw, cw, rsW, W, h2.grow hg, h3, h4, h5⟩
set_option maxRecDepth 20000 in
set_option maxHeartbeats 16000000 in
theorem yenStepsW (N : Int) (A : Option Addr) (n c : Nat) (E : List Edg) (s t m : Int) (w : World) (_ : I64 N) (_ : n ≤ c) (h : Rd w A 3 n (esCells E)) (_ : ∀ k, k < n → edgOk (ge E k)) (_ : I64 s) (_ : I64 t) (_ : I64 m) :
    Calls Tryz.prog 6 #[.agg #[.int .i64 N, .slice A n c], .int .i64 s, .int .i64 t, .int .i64 m] w fun e w' => e = .returned (.bool true) ∧ Grows w w' := by
  have C5 := hide (fun (W : World) => alive31 W)
  have C6 := hide (fun (W : World) => lLight30 N A n c W)
  obtain rfl : E.length = n := h.elen
  cases hl : lightY N E.length with
  | false =>
    rw [hl] at C6
    generalize E.length = n at *
    clear h hl
    go_enter Tryz.func6, Tryz.ntmps6
    go_wp2_with (first | (go_at_call 17; refine (C6.out _).mono ?_; rintro e w' ⟨rfl, hg⟩; (first | obtain ⟨x, rfl⟩ := Grows.later2 hg | obtain ⟨x, rfl⟩ := Grows.later hg); clear hg) | (go_at_call 18; refine (C5.out _).mono ?_; rintro e w' ⟨rfl, hg⟩; (first | obtain ⟨x, rfl⟩ := Grows.later2 hg | obtain ⟨x, rfl⟩ := Grows.later hg); clear hg))
    go_ret
    exact ⟨rfl, GG⟩
  | true =>
    rw [hl] at C6
    have hlt := lightY_of hl
    clear hl
    by_cases hm30 : 30 < m
    · generalize E.length = n at *
      clear h hlt
      go_enter Tryz.func6, Tryz.ntmps6
      go_wp2_with (first | (go_at_call 17; refine (C6.out _).mono ?_; rintro e w' ⟨rfl, hg⟩; (first | obtain ⟨x, rfl⟩ := Grows.later2 hg | obtain ⟨x, rfl⟩ := Grows.later hg); clear hg) | (go_at_call 18; refine (C5.out _).mono ?_; rintro e w' ⟨rfl, hg⟩; (first | obtain ⟨x, rfl⟩ := Grows.later2 hg | obtain ⟨x, rfl⟩ := Grows.later hg); clear hg))
      go_ret
      exact ⟨rfl, GG⟩
    · have hb1 : decide ((30 : Int) < m) = false := decide_eq_false hm30
      by_cases hbad : yeF N E s t ≠ 0
      · have C1 := hide (fun (X : World) (g : Grows w X) => yeNewBad N A E.length c E s t X (h.grows g) (by omega) hbad)
        have C2 := hide (fun (X : World) (g : Grows w X) => r30Check N A E.length c E s t X (h.grows g) (by omega))
        have hf0 : (yeF N E s t != 0) = true := by simpa using hbad
        generalize E.length = n at *
        generalize yeF N E s t = f at *
        clear h hbad hlt
        go_enter Tryz.func6, Tryz.ntmps6
        go_wp2_with (first | (go_at_call 17; refine (C6.out _).mono ?_; rintro e w' ⟨rfl, hg⟩; (first | obtain ⟨x, rfl⟩ := Grows.later2 hg | obtain ⟨x, rfl⟩ := Grows.later hg); clear hg) | (go_at_call 25; refine (C1.out _ GG).mono ?_; rintro e w' ⟨rfl, hg⟩; (first | obtain ⟨x, rfl⟩ := Grows.later2 hg | obtain ⟨x, rfl⟩ := Grows.later hg); clear hg) | (go_at_call 26; refine (C2.out _ GG).mono ?_; rintro e w' ⟨rfl, hg⟩; (first | obtain ⟨x, rfl⟩ := Grows.later2 hg | obtain ⟨x, rfl⟩ := Grows.later hg); clear hg) | (go_at_call 18; refine (C5.out _).mono ?_; rintro e w' ⟨rfl, hg⟩; (first | obtain ⟨x, rfl⟩ := Grows.later2 hg | obtain ⟨x, rfl⟩ := Grows.later hg); clear hg))
        go_ret
        exact ⟨rfl, GG⟩
      · have hok : yeF N E s t = 0 := by omega
        obtain ⟨hr, NN, sN, tN', rfl, rfl, rfl, hs, ht⟩ := yeF_ok hok
        have hin := (right_in hr).2.2.2.1
        have hN4 := (right_in hr).2.1
        rw [Int.toNat_natCast] at hin
        have hN7 : NN ≤ 7 := by omega
        have hall := srt_is (t := tN') hin hs
        have hfew := rows_few (N := NN) (s := sN) (t := tN') hlt.2
        have hslen : (srtL E (rowsL E NN sN tN')).length = (rowsL E NN sN tN').length := by
          have := srtL_len E (rowsL E NN sN tN') _ (Nat.le_refl _)
          rwa [List.take_length] at this
        have hsh : ∀ p ∈ rowsL E NN sN tN', p.length ≤ 1000000 := fun p hp => by
          have := ((rows_mem hin hs p).1 hp).short hr hs
          omega
        have C1 := hide (fun (X : World) (g : Grows w X) => yeNew NN A E.length c E sN tN' X (h.grows g) (by omega) hr hs ht)
        have C2 := hide (fun (X : World) (g : Grows w X) => r30Check (NN : Int) A E.length c E (sN : Int) (tN' : Int) X (h.grows g) (by omega))
        rw [hok] at C2
        unfold GiveNw at C1
        have C3 := hide (fun (X : World) (g : Grows w X) => show Calls Tryz.prog 28 #[.agg #[.int .i64 (NN : Int), .slice A E.length c], .int .i64 (sN : Int), .int .i64 (tN' : Int), .int .i64 1048576] X fun e w' => ∃ A' c' rs', e = .returned (.slice A' rs'.length c') ∧ RtsAt w' X.heap.size A' c' rs' (rtW E (rowsL E NN sN tN')) ∧ Grows X w' from r30Rows NN A c E sN tN' X (h.grows g) hr (by omega) hs ht hlt.2 1048576 (by omega))
        obtain ⟨na, hna⟩ : ∃ na, na = (srtL E (rowsL E NN sN tN')).length := ⟨_, rfl⟩
        have hna2 : na ≤ 3200 := by omega
        have C4 := hide (fun (X : World) (A1 : Option Addr) (c1 : Nat) (rs1 : List Rt) (h1 : RtsAt X 0 A1 c1 rs1 (rtW E (rowsL E NN sN tN'))) => show Calls Tryz.prog 27 #[.slice A1 rs1.length c1] X fun e w' => ∃ A' c' rs', e = .returned (.slice A' na c') ∧ RtsAt w' X.heap.size A' c' rs' (rtW E (srtL E (rowsL E NN sN tN'))) ∧ Grows X w' from by
          refine (r30Sorted A1 c1 rs1 E (rowsL E NN sN tN') X h1 (by omega) hsh).mono ?_
          rintro e w' ⟨A', c', rs', rfl, h2, hg⟩
          exact ⟨A', c', rs', by rw [h2.len, hna]; simp [rtW], h2, hg⟩)
        generalize srtL E (rowsL E NN sN tN') = all at *
        have HALL := hide hall
        have HNA := hide hna
        have HR := hide hr
        have hEl : E.length ≤ 1000000 := by omega
        have HSH := hide (fun (l : List Nat) (hl : SP E sN tN' l) => show l.length ≤ 60 from by have := hl.short hr hs; omega)
        have CI := hide (fun (X : World) (g : Grows w X) (l : List Nat) (hl : SP E sN tN' l) (A3 : Option Addr) (c3 : Nat) (o3 : Own X 0 3 1 A3 l.length c3 (nv l)) => show Calls Tryz.prog 22 #[.agg #[.int .i64 (NN : Int), .slice A E.length c], .int .i64 (sN : Int), .int .i64 (tN' : Int), .slice A3 l.length c3] X fun e w' => e = .returned (.bool true) ∧ Grows X w' from by
          have hq := r8Is (NN : Int) A E.length c E (sN : Int) (tN' : Int) A3 l.length c3 (ciL l) X (h.grows g) hEl (by rw [← nv_ci]; exact o3.rd) (by have := HSH.out l hl; omega)
          rw [hl.isE hr hs] at hq
          exact hq)
        have CS := hide (fun (X : World) (g : Grows w X) (l : List Nat) (hl : SP E sN tN' l) (A3 : Option Addr) (c3 : Nat) (o3 : Own X 0 3 1 A3 l.length c3 (nv l)) => show Calls Tryz.prog 23 #[.agg #[.int .i64 (NN : Int), .slice A E.length c], .int .i64 (sN : Int), .slice A3 l.length c3] X fun e w' => e = .returned (.bool true) ∧ Grows X w' from by
          have hq := r8Simple (NN : Int) A E.length c E (sN : Int) A3 l.length c3 (ciL l) X (h.grows g) hEl (by rw [← nv_ci]; exact o3.rd) (by have := HSH.out l hl; omega)
          rw [hl.sim hr hs] at hq
          exact hq)
        have CW := hide (fun (X : World) (g : Grows w X) (l : List Nat) (hl : SP E sN tN' l) (A3 : Option Addr) (c3 : Nat) (o3 : Own X 0 3 1 A3 l.length c3 (nv l)) => show Calls Tryz.prog 32 #[.agg #[.int .i64 (NN : Int), .slice A E.length c], .slice A3 l.length c3] X fun e w' => e = .returned (.tuple #[.int .u64 (wE E l : Int), .bool true]) ∧ Grows X w' from by
          have hq := r8Weight (NN : Int) A E.length c E A3 l.length c3 (ciL l) X (h.grows g) hEl (by rw [← nv_ci]; exact o3.rd) (by have := HSH.out l hl; omega)
          rw [hl.1.eds hr l (fun i hi => hi), if_pos rfl, ciL_len, wtK_is hr hl.1.edges l.length (Nat.le_refl _), List.take_length] at hq
          exact hq)
        have CE := hide (fun (X : World) (A3 A4 : Option Addr) (c3 c4 : Nat) (l : List Nat) (hl : SP E sN tN' l) (o3 : Own X 0 3 1 A3 l.length c3 (nv l)) (o4 : Own X 0 3 1 A4 l.length c4 (nv l)) => show Calls Tryz.prog 24 #[.agg #[.slice A3 l.length c3, .int .u64 (wE E l : Int)], .agg #[.slice A4 l.length c4, .int .u64 (wE E l : Int)]] X fun e w' => e = .returned (.int .i64 0) ∧ Grows X w' from by
          have hq := r8CmpG A3 l.length c3 (wE E l) l A4 l.length c4 (wE E l) l X o3.rd (by have := HSH.out l hl; omega) o4.rd (by have := HSH.out l hl; omega)
          rw [cmpV_is rfl rfl, cmpR_self] at hq
          unfold rVal at hq
          exact hq)
        have CC := hide (fun (X : World) (A3 A4 : Option Addr) (c3 c4 : Nat) (l l' : List Nat) (hl : SP E sN tN' l) (hl' : SP E sN tN' l') (hlt : rLt E l l') (o3 : Own X 0 3 1 A3 l.length c3 (nv l)) (o4 : Own X 0 3 1 A4 l'.length c4 (nv l')) => show Calls Tryz.prog 24 #[.agg #[.slice A3 l.length c3, .int .u64 (wE E l : Int)], .agg #[.slice A4 l'.length c4, .int .u64 (wE E l' : Int)]] X fun e w' => e = .returned (.int .i64 (-1)) ∧ Grows X w' from by
          have hq := r8CmpG A3 l.length c3 (wE E l) l A4 l'.length c4 (wE E l') l' X o3.rd (by have := HSH.out l hl; omega) o4.rd (by have := HSH.out l' hl'; omega)
          rw [cmpV_is rfl rfl, show cmpR E l l' = -1 from hlt] at hq
          unfold rVal at hq
          exact hq)
        clear hok hr hbad hin hN4 hall hfew hslen hsh hlt hna
        generalize E.length = n at *
        clear h
        go_enter Tryz.func6, Tryz.ntmps6
        go_upto_region 1 with fail
        obtain ⟨wg, hwg⟩ : ∃ wg, wg = w.alloc (.cells #[.int .i64 (NN : Int), .slice A n c] 35) := ⟨_, rfl⟩
        have hgg : Grows w wg := by rw [hwg]; exact (Grows.refl _).new _
        have a1 : Arr wg w.heap.size 35 [.int .i64 (NN : Int), .slice A n c] := by rw [hwg]; exact Arr.make _ _ _
        rw [← hwg]
        clear hwg
        obtain ⟨b4, hb4⟩ : ∃ b4, b4 = w.heap.size := ⟨_, rfl⟩
        rw [← hb4] at a1 ⊢
        clear hb4
        go_wp2_with (first
          | (go_at_call 17; refine (C6.out _).mono ?_; rintro e w' ⟨rfl, hg⟩; obtain ⟨x1, rfl⟩ := hg.later; clear hg)
          | (go_at_call 25; refine (C1.out _ (hgg.trans GG)).mono ?_; rintro e w' ⟨b, Ag, cg, Aw, cw, rsW, W, rfl, hy, hok, hb, hlo, hg⟩; obtain ⟨x2, rfl⟩ := hg.later; have HY := hide hy; have HOK := hide hok; have HBB := hide hb; have HLO := hide hlo; clear hy hok hb hlo hg)
          | (go_at_call 26; refine (C2.out _ (hgg.trans GG)).mono ?_; rintro e w' ⟨rfl, hg⟩; obtain ⟨x3, rfl⟩ := hg.later; clear hg)
          | (go_at_call 28; refine (C3.out _ (hgg.trans GG)).mono ?_; rintro e w' ⟨A1, c1, rs1, rfl, ho1, hg⟩; obtain ⟨x4, rfl⟩ := hg.later; have HO1 := hide ho1; clear hg ho1)
          | (go_at_call 27; refine (C4.out _ A1 c1 rs1 ⟨HO1.out.own.base (Nat.zero_le _), HO1.out.rows, HO1.out.eqs⟩).mono ?_; rintro e w' ⟨A2, c2, rs2, rfl, ho2, hg⟩; obtain ⟨x5, rfl⟩ := hg.later; have HO2 := hide ho2; clear hg ho2))
        obtain ⟨w0, hw0⟩ : ∃ w0, wg.heap.size = w0 := ⟨_, rfl⟩
        have hbb : w0 ≤ b := by have h1 := HBB.out; have h2 := x1.size; omega
        have HS0 := hide (show StpI w0 x5.now b NN E sN tN' Ag cg (all.take 0) all A2 c2 rs2 from
          ⟨⟨HO2.out.own.base (by have h1 := x1.size; have h2 := x2.size; have h3 := x3.size; have h4 := x4.size; omega), HO2.out.rows, HO2.out.eqs⟩, _, _, _, _, _, _, _, HY.out.grow (show Grows x2.now x5.now from GG), HOK.out, fun p hp => hp.elim (fun h => (by cases h)) (fun h => by have h1 := HLO.out p h; have h2 := x1.size; omega), fun p q hp hq => hq.elim (fun h => (by cases h)) (fun h e => by
            have h1 := (HY.out.waits.own).ltB q h
            have h2 := (HO2.out.own.ty p hp).1
            have h3 := x3.size
            have h4 := x4.size
            omega)⟩)
        clear HY HOK HBB HLO HO1 HO2 C1 C2 C3 C4
        go_loopw [13] (fun tk wr => ∃ (i : Nat), tk = .int .i64 (i : Int) ∧ ((i : Int) ≤ m ∨ i = 0) ∧ ∃ y : Later wg, wr = y.now ∧ Hid (StpI w0 y.now b NN E sN tN' Ag cg (all.take i) all A2 c2 rs2)) (fun tk _ => (m - Go.RowKit.intOf tk).toNat)
        case atStart =>
          obtain ⟨y0, hy0⟩ : ∃ y0 : Later wg, y0.now = x5.now := by
            obtain ⟨z, hz⟩ := (show Grows wg x5.now from GG).later
            exact ⟨z, hz.symm⟩
          exact ⟨0, by go_num, .inr rfl, y0, hy0.symm, by rw [hy0]; exact HS0⟩
        case round =>
          clear HS0
          obtain ⟨i, rfl, him, y, rfl, HS⟩ := hrel
          by_cases hlt : (i : Int) < m
          · have hi30 : i < 30 := by omega
            obtain ⟨At, ct, rsT, Aw, cw, rsW, W, hy, hok, hlo, hsep⟩ := HS.out.yen
            by_cases hia : i < na
            · as_aux_lemma =>
                cases W with
                | nil => exact absurd (hok.empty HALL.out) (by have := HNA.out; omega)
                | cons r W =>
                  obtain ⟨h1, h2, h3⟩ := hok.head HALL.out
                  have CN := hide (yeNext b NN E sN tN' Ag cg At ct rsT (all.take i) Aw cw rsW r W all y.now hy hok HR.out (by omega) hs ht HALL.out (by have := HNA.out; omega) (by rw [List.length_take]; omega))
                  unfold GiveNx at CN
                  have HNX := hide (fun (w2 : World) (At' Aw' : Option Addr) => ways_next (w' := w2) (At' := At') (Aw' := Aw') hw0 y.grows hbb hy hlo hsep HS.out.out)
                  rw [h3] at CN
                  have hgr : gL all i = r := by rw [gL_at h1]; exact (List.getElem?_eq_some_iff.1 h2).2
                  have hsr : SP E sN tN' r := (hok.wait r (List.mem_cons_self ..)).1
                  clear hy hok hlo hsep HS
                  go_upto_region 12 with (go_at_call 29; refine CN.out.mono ?_; rintro e w2 ⟨A3, c3, rfl, ho2, At2, ct2, rsT2, Aw2, cw2, rsW2, W2, hy2, hok2, ht2, hn2⟩; have hq2 := HNX.out w2 At2 Aw2 ht2 hn2; obtain ⟨y2, rfl⟩ := hq2.1.later; have HO2 := hide ho2; have HY2 := hide hy2; have HOK2 := hide hok2; have HQ2 := hide hq2.2; clear ho2 hy2 hok2 ht2 hn2 hq2)
                  obtain ⟨W3, hW3⟩ : ∃ W3, W3 = y2.now.alloc (.cells #[.slice A3 r.length c3, .int .u64 (wE E r : Int)] 53) := ⟨_, rfl⟩
                  have hg3 : Grows y2.now W3 := by rw [hW3]; exact (Grows.refl _).new _
                  have ax : Arr W3 y2.now.heap.size 53 [.slice A3 r.length c3, .int .u64 (wE E r : Int)] := by rw [hW3]; exact Arr.make _ _ _
                  rw [← hW3]
                  clear hW3
                  obtain ⟨bx, hbx⟩ : ∃ b, b = y2.now.heap.size := ⟨_, rfl⟩
                  rw [← hbx] at ax ⊢
                  clear hbx
                  obtain ⟨y3, rfl⟩ := (y2.grows.trans hg3).later
                  have HS3 := hide (show StpI w0 y3.now b NN E sN tN' Ag cg (all.take (i + 1)) all A2 c2 rs2 from ⟨HQ2.out.1.grows hg3, At2, ct2, rsT2, Aw2, cw2, rsW2, W2, HY2.out.grow hg3, HOK2.out, HQ2.out.2.1, HQ2.out.2.2⟩)
                  obtain ⟨g2, A9, c9, e9, _, k1, k2, o9⟩ := HS3.out.out.way (i := i) h1
                  subst e9
                  rw [hgr] at k1 k2 o9
                  have o3 := HO2.out.grows hg3
                  have CE1 := hide (fun (X : World) (g : Grows y3.now X) => CE.out X A3 A9 c3 c9 r hsr (o3.grows g) (o9.grows g))
                  have CT := hide (fun (X : World) (g : Grows y3.now X) => show Calls Tryz.prog 30 #[.pointer (some ⟨b, 0, none⟩)] X fun e w' => e = .returned (.int .i64 ((i : Int) + 1)) ∧ Grows X w' from by
                    have hq := yeTold b NN E sN tN' Ag cg At2 ct2 rsT2 (all.take (i + 1)) Aw2 cw2 rsW2 W2 X ((HY2.out.grow hg3).grow g)
                    rw [show (((all.take (i + 1)).length : Nat) : Int) = (i : Int) + 1 by rw [List.length_take]; have := HNA.out; omega] at hq
                    exact hq)
                  have CWT := hide (fun (X : World) (g : Grows y3.now X) => yeWaits b NN E sN tN' Ag cg At2 ct2 rsT2 (all.take (i + 1)) Aw2 cw2 rsW2 W2 X ((HY2.out.grow hg3).grow g) (by have h1 := HOK2.out.few HALL.out; have := HNA.out; omega) (fun p hp => by have := HSH.out p (HOK2.out.wait p hp).1; omega))
                  have hmin : (((i : Int) + 1) != min ((i : Int) + 1) (na : Int)) = false := by
                    rw [show min ((i : Int) + 1) (na : Int) = (i : Int) + 1 by omega]
                    simp
                  generalize r.length = nr at *
                  generalize wE E r = fr at *
                  clear o3 o9 HO2 HQ2 CN HNX
                  go_wp2_with fail
                  ((first | refine wp_region_gen (by kernel_rfl) (by kernel_rfl) ?_); (repeat' (first | (refine gLex_val0 rfl (by kernel_rfl) (fun K hK => ?_); (go_simp; (try (simp only [↓IntWalk.iteOmega]; try go_simp)); (try simp (disch := omega) only [IntWalk.i64_in]); (try simp (disch := omega) only [IntWalk.u64_in]); first | (refine hK _ ?_; clear hK K) | (apply Exists.intro; refine ⟨fun x => ?_, hK _ ?_⟩; (first | (go_at_call 24; exact CE1.out _ GG) | (go_at_call 30; exact CT.out _ GG)); clear hK K))) | (refine gLex_undef rfl rfl rfl (by kernel_rfl) (fun K hK => ?_); go_simp; refine hK _ ?_; clear hK K) | (refine gLex_ask rfl rfl rfl ?_; first | (apply gAsk_yes; kernel_rfl; intro K hK; (go_simp; (try (simp only [↓IntWalk.iteOmega]; try go_simp)); (try simp (disch := omega) only [IntWalk.i64_in]); (try simp (disch := omega) only [IntWalk.u64_in]); first | (refine hK _ ?_; clear hK K) | (apply Exists.intro; refine ⟨fun x => ?_, hK _ ?_⟩; (first | (go_at_call 24; exact CE1.out _ GG) | (go_at_call 30; exact CT.out _ GG)); clear hK K))) | ((first | apply gAsk_no1 | apply gAsk_no2); kernel_rfl; intro K hK; simp [go_sem]; refine hK _ ?_; clear hK K) | (apply gAsk_part; kernel_rfl; all_goals (intro h K hK; (try simp only [Bool.not_true] at h); (try simp only [Bool.not_false] at h); (try simp only [decide_eq_true_eq] at h); (try simp only [decide_eq_false_iff_not] at h); first | (exfalso; first | contradiction | omega) | (go_simp; (try (simp only [↓IntWalk.iteOmega]; try go_simp)); (try simp (disch := omega) only [IntWalk.i64_in]); (try simp (disch := omega) only [IntWalk.u64_in]); first | (refine hK _ ?_; clear hK K) | (apply Exists.intro; refine ⟨fun x => ?_, hK _ ?_⟩; (first | (go_at_call 24; exact CE1.out _ GG) | (go_at_call 30; exact CT.out _ GG)); clear hK K))))))); all_goals ((apply gLex_end); intro y4))
                  go_upto_region 15 with (go_at_call 31; refine (CWT.out _ (y4.grows.trans GG)).mono ?_; rintro e w' ⟨A4, c4, rs4, rfl, ho4, hg⟩; have hg5 := (y3.grows.trans y4.grows).trans hg; have hg35 := y4.grows.trans hg; obtain ⟨y5, rfl⟩ := hg5.later; have HO4 := hide ho4; clear hg ho4 hg5)
                  have HS5 := hide (HS3.out.grow hg35)
                  have a5 := a1.grow y5.grows
                  have HWS := hide (fun (j : Nat) (hj : j < W2.length) => show SP E sN tN' (gL W2 j) from by rw [gL_at hj]; exact (HOK2.out.wait _ (List.getElem_mem _)).1)
                  have HWL := hide (fun (j k : Nat) (hjk : j < k) (hk : k < W2.length) => show rLt E (gL W2 j) (gL W2 k) from by
                    rw [gL_at (Nat.lt_trans hjk hk), gL_at hk]
                    exact List.pairwise_iff_getElem.1 HOK2.out.sort j k (Nat.lt_trans hjk hk) hk hjk)
                  obtain ⟨nW, hnW⟩ : ∃ nW, nW = W2.length := ⟨_, rfl⟩
                  have hl4 : rs4.length = nW := by rw [HO4.out.len, hnW]; simp [rtW]
                  rw [hl4]
                  have HNW := hide hnW
                  have hnWs : nW ≤ 3200 := by have h1 := HOK2.out.few HALL.out; have := HNA.out; omega
                  clear hl4
                  by_cases hnx : i + 1 < na
                  · as_aux_lemma =>
                      have hWne : 0 < W2.length := by
                        rcases Nat.eq_zero_or_pos W2.length with h0 | h0
                        · exfalso
                          have e0 : W2 = [] := List.eq_nil_of_length_eq_zero h0
                          have hq := HOK2.out
                          rw [e0] at hq
                          have := hq.empty HALL.out
                          have := HNA.out
                          omega
                        · exact h0
                      have hnW0 : 0 < nW := by omega
                      have hne0 : ((nW : Int) == 0) = false := beq_eq_false_iff_ne.2 (by omega)
                      have hgr2 : gL W2 0 = gL all (i + 1) := by
                        cases hW2 : W2 with
                        | nil => rw [hW2] at hWne; exact absurd hWne (by simp)
                        | cons r2 W9 =>
                          have hq := HOK2.out
                          rw [hW2] at hq
                          obtain ⟨j1, j2, _⟩ := hq.head HALL.out
                          rw [gL_at j1]
                          exact ((List.getElem?_eq_some_iff.1 j2).2).symm
                      obtain ⟨g2', A8, c8, e8, _, k3, k4, o8⟩ := HS5.out.out.way (i := i + 1) (by have := HNA.out; omega)
                      injection e8 with e8
                      injection e8 with e8
                      subst e8
                      obtain ⟨g4, A5, c5, e5, _, k5, k6, o5⟩ := HO4.out.way (i := 0) hWne
                      subst e5
                      have hsr2 := HWS.out 0 hWne
                      rw [← hgr2] at k3 k4 o8
                      have CE2 := hide (fun (X : World) (g : Grows y5.now X) => CE.out X A5 A8 c5 c8 (gL W2 0) hsr2 (o5.grows g) (o8.grows g))
                      have hi1 : ((i : Int) + 1).toNat = i + 1 := by omega
                      have hdd : decide ((i : Int) + 1 < (na : Int)) = true := decide_eq_true (by omega)
                      have hd2 : decide ((na : Int) ≤ (i : Int) + 1) = false := decide_eq_false (by omega)
                      generalize (gL W2 0).length = n5 at *
                      generalize wE E (gL W2 0) = f5 at *
                      clear o5 o8 hnW hWne hgr2 hsr2 CE1 CT CWT
                      go_wp2_with fail
                      ((first | refine wp_region_gen (by kernel_rfl) (by kernel_rfl) ?_); (repeat' (first | (refine gLex_val0 rfl (by kernel_rfl) (fun K hK => ?_); (go_simp; (try (simp only [↓IntWalk.iteOmega]; try go_simp)); (try simp (disch := omega) only [IntWalk.i64_in]); (try simp (disch := omega) only [IntWalk.u64_in]); first | (refine hK _ ?_; clear hK K) | (apply Exists.intro; refine ⟨fun x => ?_, hK _ ?_⟩; (first | (go_at_call 24; exact CE2.out _ GG)); clear hK K))) | (refine gLex_undef rfl rfl rfl (by kernel_rfl) (fun K hK => ?_); go_simp; refine hK _ ?_; clear hK K) | (refine gLex_ask rfl rfl rfl ?_; first | (apply gAsk_yes; kernel_rfl; intro K hK; (go_simp; (try (simp only [↓IntWalk.iteOmega]; try go_simp)); (try simp (disch := omega) only [IntWalk.i64_in]); (try simp (disch := omega) only [IntWalk.u64_in]); first | (refine hK _ ?_; clear hK K) | (apply Exists.intro; refine ⟨fun x => ?_, hK _ ?_⟩; (first | (go_at_call 24; exact CE2.out _ GG)); clear hK K))) | ((first | apply gAsk_no1 | apply gAsk_no2); kernel_rfl; intro K hK; simp [go_sem]; refine hK _ ?_; clear hK K) | (apply gAsk_part; kernel_rfl; all_goals (intro h K hK; (try simp only [Bool.not_true] at h); (try simp only [Bool.not_false] at h); (try simp only [decide_eq_true_eq] at h); (try simp only [decide_eq_false_iff_not] at h); first | (exfalso; first | contradiction | omega) | (go_simp; (try (simp only [↓IntWalk.iteOmega]; try go_simp)); (try simp (disch := omega) only [IntWalk.i64_in]); (try simp (disch := omega) only [IntWalk.u64_in]); first | (refine hK _ ?_; clear hK K) | (apply Exists.intro; refine ⟨fun x => ?_, hK _ ?_⟩; (first | (go_at_call 24; exact CE2.out _ GG)); clear hK K))))))); all_goals ((apply gLex_end); intro y6))
                      go_wp2_with fail
                      go_loopw [17] (fun kk wr => ∃ q : Nat, q ≤ nW ∧ kk = .int .i64 (q : Int) ∧ ∃ z : Later y5.now, wr = z.now) (fun kk _ => nW - (Go.RowKit.intOf kk).toNat)
                      case atStart => exact ⟨0, by omega, by go_num, ⟨_, GG⟩, rfl⟩
                      case round =>
                        as_aux_lemma =>
                          obtain ⟨q, hq, rfl, z, rfl⟩ := hrel
                          have hgz : Grows wg z.now := y5.grows.trans z.grows
                          have hgwz := hgg.trans hgz
                          by_cases hqn : q < nW
                          · have hqW : q < W2.length := by have := HNW.out; omega
                            have HZ := hide (HO4.out.grows z.grows)
                            obtain ⟨g6, A6, c6, e6, _, k6, k7, o6⟩ := HZ.out.way hqW
                            injection e6 with e6
                            injection e6 with e6
                            subst e6
                            have hsp6 := HWS.out q hqW
                            have CI2 := hide (fun (X : World) (g : Grows z.now X) => CI.out X (hgwz.trans g) _ hsp6 A6 c6 (o6.grows g))
                            have CS2 := hide (fun (X : World) (g : Grows z.now X) => CS.out X (hgwz.trans g) _ hsp6 A6 c6 (o6.grows g))
                            have CW2 := hide (fun (X : World) (g : Grows z.now X) => CW.out X (hgwz.trans g) _ hsp6 A6 c6 (o6.grows g))
                            rcases Nat.eq_zero_or_pos q with h0 | h0
                            · as_aux_lemma =>
                                have h00 : ¬ (0 : Int) < (q : Int) := by omega
                                generalize (gL W2 q).length = n6 at *
                                generalize wE E (gL W2 q) = f6 at *
                                clear h0 o6 hqW hsp6
                                go_wp2_with fail
                                ((first | refine wp_region_gen (by kernel_rfl) (by kernel_rfl) ?_); (repeat' (first | (refine gLex_val0 rfl (by kernel_rfl) (fun K hK => ?_); (go_simp; (try (simp only [↓IntWalk.iteOmega]; try go_simp)); (try simp (disch := omega) only [IntWalk.i64_in]); (try simp (disch := omega) only [IntWalk.u64_in]); first | (refine hK _ ?_; clear hK K) | (apply Exists.intro; refine ⟨fun x => ?_, hK _ ?_⟩; (first | (go_at_call 32; exact CW2.out _ GG)); clear hK K))) | (refine gLex_undef rfl rfl rfl (by kernel_rfl) (fun K hK => ?_); go_simp; refine hK _ ?_; clear hK K) | (refine gLex_ask rfl rfl rfl ?_; first | (apply gAsk_yes; kernel_rfl; intro K hK; (go_simp; (try (simp only [↓IntWalk.iteOmega]; try go_simp)); (try simp (disch := omega) only [IntWalk.i64_in]); (try simp (disch := omega) only [IntWalk.u64_in]); first | (refine hK _ ?_; clear hK K) | (apply Exists.intro; refine ⟨fun x => ?_, hK _ ?_⟩; (first | (go_at_call 32; exact CW2.out _ GG)); clear hK K))) | ((first | apply gAsk_no1 | apply gAsk_no2); kernel_rfl; intro K hK; simp [go_sem]; refine hK _ ?_; clear hK K) | (apply gAsk_part; kernel_rfl; all_goals (intro h K hK; (try simp only [Bool.not_true] at h); (try simp only [Bool.not_false] at h); (try simp only [decide_eq_true_eq] at h); (try simp only [decide_eq_false_iff_not] at h); first | (exfalso; first | contradiction | omega) | (go_simp; (try (simp only [↓IntWalk.iteOmega]; try go_simp)); (try simp (disch := omega) only [IntWalk.i64_in]); (try simp (disch := omega) only [IntWalk.u64_in]); first | (refine hK _ ?_; clear hK K) | (apply Exists.intro; refine ⟨fun x => ?_, hK _ ?_⟩; (first | (go_at_call 32; exact CW2.out _ GG)); clear hK K))))))); all_goals ((apply gLex_end); intro z1))
                                go_wp2_with fail
                                ((first | refine wp_region_gen (by kernel_rfl) (by kernel_rfl) ?_); (repeat' (first | (refine gLex_val0 rfl (by kernel_rfl) (fun K hK => ?_); (go_simp; (try (simp only [↓IntWalk.iteOmega]; try go_simp)); (try simp (disch := omega) only [IntWalk.i64_in]); (try simp (disch := omega) only [IntWalk.u64_in]); first | (refine hK _ ?_; clear hK K) | (apply Exists.intro; refine ⟨fun x => ?_, hK _ ?_⟩; (first | (go_at_call 22; exact CI2.out _ (z1.grows.trans GG)) | (go_at_call 23; exact CS2.out _ (z1.grows.trans GG))); clear hK K))) | (refine gLex_undef rfl rfl rfl (by kernel_rfl) (fun K hK => ?_); go_simp; refine hK _ ?_; clear hK K) | (refine gLex_ask rfl rfl rfl ?_; first | (apply gAsk_yes; kernel_rfl; intro K hK; (go_simp; (try (simp only [↓IntWalk.iteOmega]; try go_simp)); (try simp (disch := omega) only [IntWalk.i64_in]); (try simp (disch := omega) only [IntWalk.u64_in]); first | (refine hK _ ?_; clear hK K) | (apply Exists.intro; refine ⟨fun x => ?_, hK _ ?_⟩; (first | (go_at_call 22; exact CI2.out _ (z1.grows.trans GG)) | (go_at_call 23; exact CS2.out _ (z1.grows.trans GG))); clear hK K))) | ((first | apply gAsk_no1 | apply gAsk_no2); kernel_rfl; intro K hK; simp [go_sem]; refine hK _ ?_; clear hK K) | (apply gAsk_part; kernel_rfl; all_goals (intro h K hK; (try simp only [Bool.not_true] at h); (try simp only [Bool.not_false] at h); (try simp only [decide_eq_true_eq] at h); (try simp only [decide_eq_false_iff_not] at h); first | (exfalso; first | contradiction | omega) | (go_simp; (try (simp only [↓IntWalk.iteOmega]; try go_simp)); (try simp (disch := omega) only [IntWalk.i64_in]); (try simp (disch := omega) only [IntWalk.u64_in]); first | (refine hK _ ?_; clear hK K) | (apply Exists.intro; refine ⟨fun x => ?_, hK _ ?_⟩; (first | (go_at_call 22; exact CI2.out _ (z1.grows.trans GG)) | (go_at_call 23; exact CS2.out _ (z1.grows.trans GG))); clear hK K))))))); all_goals ((apply gLex_end); intro z2))
                                go_wp2_with fail
                                go_roundw
                                case measure => simp [Go.RowKit.intOf]; omega
                                case rel => exact ⟨q + 1, by omega, by go_num, ⟨_, GG⟩, rfl⟩
                            · as_aux_lemma =>
                                obtain ⟨q', rfl⟩ : ∃ q', q = q' + 1 := ⟨q - 1, by omega⟩
                                obtain ⟨g7, A7, c7, e7, _, m6, m7, o7⟩ := HZ.out.way (i := q') (by omega)
                                injection e7 with e7
                                injection e7 with e7
                                subst e7
                                have CC2 := hide (fun (X : World) (g : Grows z.now X) => CC.out X A7 A6 c7 c6 _ _ (HWS.out q' (by omega)) hsp6 (HWL.out q' (q' + 1) (by omega) hqW) (o7.grows g) (o6.grows g))
                                have hi1 : ((q' : Int) + 1).toNat = q' + 1 := by omega
                                have h00 : (0 : Int) < (q' : Int) + 1 := by omega
                                generalize (gL W2 (q' + 1)).length = n6 at *
                                generalize wE E (gL W2 (q' + 1)) = f6 at *
                                generalize (gL W2 q').length = n7 at *
                                generalize wE E (gL W2 q') = f7 at *
                                simp only [Int.natCast_add, Int.natCast_one]
                                clear h0 o6 o7 hqW hsp6
                                go_wp2_with fail
                                ((first | refine wp_region_gen (by kernel_rfl) (by kernel_rfl) ?_); (repeat' (first | (refine gLex_val0 rfl (by kernel_rfl) (fun K hK => ?_); (go_simp; (try (simp only [↓IntWalk.iteOmega]; try go_simp)); (try simp (disch := omega) only [IntWalk.i64_in]); (try simp (disch := omega) only [IntWalk.u64_in]); first | (refine hK _ ?_; clear hK K) | (apply Exists.intro; refine ⟨fun x => ?_, hK _ ?_⟩; (first | (go_at_call 32; exact CW2.out _ GG)); clear hK K))) | (refine gLex_undef rfl rfl rfl (by kernel_rfl) (fun K hK => ?_); go_simp; refine hK _ ?_; clear hK K) | (refine gLex_ask rfl rfl rfl ?_; first | (apply gAsk_yes; kernel_rfl; intro K hK; (go_simp; (try (simp only [↓IntWalk.iteOmega]; try go_simp)); (try simp (disch := omega) only [IntWalk.i64_in]); (try simp (disch := omega) only [IntWalk.u64_in]); first | (refine hK _ ?_; clear hK K) | (apply Exists.intro; refine ⟨fun x => ?_, hK _ ?_⟩; (first | (go_at_call 32; exact CW2.out _ GG)); clear hK K))) | ((first | apply gAsk_no1 | apply gAsk_no2); kernel_rfl; intro K hK; simp [go_sem]; refine hK _ ?_; clear hK K) | (apply gAsk_part; kernel_rfl; all_goals (intro h K hK; (try simp only [Bool.not_true] at h); (try simp only [Bool.not_false] at h); (try simp only [decide_eq_true_eq] at h); (try simp only [decide_eq_false_iff_not] at h); first | (exfalso; first | contradiction | omega) | (go_simp; (try (simp only [↓IntWalk.iteOmega]; try go_simp)); (try simp (disch := omega) only [IntWalk.i64_in]); (try simp (disch := omega) only [IntWalk.u64_in]); first | (refine hK _ ?_; clear hK K) | (apply Exists.intro; refine ⟨fun x => ?_, hK _ ?_⟩; (first | (go_at_call 32; exact CW2.out _ GG)); clear hK K))))))); all_goals ((apply gLex_end); intro z1))
                                go_wp2_with fail
                                ((first | refine wp_region_gen (by kernel_rfl) (by kernel_rfl) ?_); (repeat' (first | (refine gLex_val0 rfl (by kernel_rfl) (fun K hK => ?_); (go_simp; (try (simp only [↓IntWalk.iteOmega]; try go_simp)); (try simp (disch := omega) only [IntWalk.i64_in]); (try simp (disch := omega) only [IntWalk.u64_in]); first | (refine hK _ ?_; clear hK K) | (apply Exists.intro; refine ⟨fun x => ?_, hK _ ?_⟩; (first | (go_at_call 22; exact CI2.out _ (z1.grows.trans GG)) | (go_at_call 23; exact CS2.out _ (z1.grows.trans GG)) | (go_at_call 24; exact CC2.out _ (z1.grows.trans GG))); clear hK K))) | (refine gLex_undef rfl rfl rfl (by kernel_rfl) (fun K hK => ?_); go_simp; refine hK _ ?_; clear hK K) | (refine gLex_ask rfl rfl rfl ?_; first | (apply gAsk_yes; kernel_rfl; intro K hK; (go_simp; (try (simp only [↓IntWalk.iteOmega]; try go_simp)); (try simp (disch := omega) only [IntWalk.i64_in]); (try simp (disch := omega) only [IntWalk.u64_in]); first | (refine hK _ ?_; clear hK K) | (apply Exists.intro; refine ⟨fun x => ?_, hK _ ?_⟩; (first | (go_at_call 22; exact CI2.out _ (z1.grows.trans GG)) | (go_at_call 23; exact CS2.out _ (z1.grows.trans GG)) | (go_at_call 24; exact CC2.out _ (z1.grows.trans GG))); clear hK K))) | ((first | apply gAsk_no1 | apply gAsk_no2); kernel_rfl; intro K hK; simp [go_sem]; refine hK _ ?_; clear hK K) | (apply gAsk_part; kernel_rfl; all_goals (intro h K hK; (try simp only [Bool.not_true] at h); (try simp only [Bool.not_false] at h); (try simp only [decide_eq_true_eq] at h); (try simp only [decide_eq_false_iff_not] at h); first | (exfalso; first | contradiction | omega) | (go_simp; (try (simp only [↓IntWalk.iteOmega]; try go_simp)); (try simp (disch := omega) only [IntWalk.i64_in]); (try simp (disch := omega) only [IntWalk.u64_in]); first | (refine hK _ ?_; clear hK K) | (apply Exists.intro; refine ⟨fun x => ?_, hK _ ?_⟩; (first | (go_at_call 22; exact CI2.out _ (z1.grows.trans GG)) | (go_at_call 23; exact CS2.out _ (z1.grows.trans GG)) | (go_at_call 24; exact CC2.out _ (z1.grows.trans GG))); clear hK K))))))); all_goals ((apply gLex_end); intro z2))
                                go_wp2_with fail
                                go_roundw
                                case measure => simp [Go.RowKit.intOf]; omega
                                case rel => exact ⟨q' + 1 + 1, by omega, by go_num, ⟨_, GG⟩, rfl⟩
                          · obtain rfl : nW = q := by omega
                            go_wp2_with fail
                            have HSZ := hide (HS5.out.grow z.grows)
                            obtain ⟨z9, hz9⟩ := hgz.later
                            rw [hz9] at HSZ ⊢
                            clear hz9
                            go_roundw
                            case measure => simp [Go.RowKit.intOf]; omega
                            case rel => exact ⟨i + 1, by go_num, .inl (by omega), z9, rfl, HSZ⟩
                  · as_aux_lemma =>
                      have hW0 : W2 = [] := by
                        cases hW2 : W2 with
                        | nil => rfl
                        | cons r2 W9 =>
                          have hq := HOK2.out
                          rw [hW2] at hq
                          have := (hq.head HALL.out).1
                          have := HNA.out
                          omega
                      obtain rfl : nW = 0 := by rw [hnW, hW0]; rfl
                      have hdd : decide ((i : Int) + 1 < (na : Int)) = false := decide_eq_false (by omega)
                      have hd2 : decide ((na : Int) ≤ (i : Int) + 1) = true := decide_eq_true (by omega)
                      clear hnW hW0 CE1 CT CWT HNW
                      go_wp2_with fail
                      ((first | refine wp_region_gen (by kernel_rfl) (by kernel_rfl) ?_); (repeat' (first | (refine gLex_val0 rfl (by kernel_rfl) (fun K hK => ?_); (go_simp; (try (simp only [↓IntWalk.iteOmega]; try go_simp)); (try simp (disch := omega) only [IntWalk.i64_in]); (try simp (disch := omega) only [IntWalk.u64_in]); first | (refine hK _ ?_; clear hK K) | (apply Exists.intro; refine ⟨fun x => ?_, hK _ ?_⟩; (first | fail); clear hK K))) | (refine gLex_undef rfl rfl rfl (by kernel_rfl) (fun K hK => ?_); go_simp; refine hK _ ?_; clear hK K) | (refine gLex_ask rfl rfl rfl ?_; first | (apply gAsk_yes; kernel_rfl; intro K hK; (go_simp; (try (simp only [↓IntWalk.iteOmega]; try go_simp)); (try simp (disch := omega) only [IntWalk.i64_in]); (try simp (disch := omega) only [IntWalk.u64_in]); first | (refine hK _ ?_; clear hK K) | (apply Exists.intro; refine ⟨fun x => ?_, hK _ ?_⟩; (first | fail); clear hK K))) | ((first | apply gAsk_no1 | apply gAsk_no2); kernel_rfl; intro K hK; simp [go_sem]; refine hK _ ?_; clear hK K) | (apply gAsk_part; kernel_rfl; all_goals (intro h K hK; (try simp only [Bool.not_true] at h); (try simp only [Bool.not_false] at h); (try simp only [decide_eq_true_eq] at h); (try simp only [decide_eq_false_iff_not] at h); first | (exfalso; first | contradiction | omega) | (go_simp; (try (simp only [↓IntWalk.iteOmega]; try go_simp)); (try simp (disch := omega) only [IntWalk.i64_in]); (try simp (disch := omega) only [IntWalk.u64_in]); first | (refine hK _ ?_; clear hK K) | (apply Exists.intro; refine ⟨fun x => ?_, hK _ ?_⟩; (first | fail); clear hK K))))))); all_goals ((apply gLex_end); intro y6))
                      go_wp2_with fail
                      go_loopw [17] (fun kk wr => kk = .int .i64 0 ∧ ∃ z : Later y5.now, wr = z.now) (fun _ _ => 0)
                      case atStart => exact ⟨by go_num, ⟨_, GG⟩, rfl⟩
                      case round =>
                        as_aux_lemma =>
                          obtain ⟨rfl, z, rfl⟩ := hrel
                          go_wp2_with fail
                          have hgz : Grows wg z.now := y5.grows.trans z.grows
                          have HSZ := hide (HS5.out.grow z.grows)
                          obtain ⟨z9, hz9⟩ := hgz.later
                          rw [hz9] at HSZ ⊢
                          clear hz9
                          go_roundw
                          case measure => simp [Go.RowKit.intOf]; omega
                          case rel => exact ⟨i + 1, by go_num, .inl (by omega), z9, rfl, HSZ⟩
            · as_aux_lemma =>
                have hW0 : W = [] := by
                  cases hW2 : W with
                  | nil => rfl
                  | cons r2 W9 =>
                    rw [hW2] at hok
                    have := (hok.head HALL.out).1
                    have := HNA.out
                    omega
                subst hW0
                have CN := hide (yeNextNone b NN E sN tN' Ag cg At ct rsT (all.take i) Aw cw rsW y.now hy)
                have hti : all.take i = all.take (i + 1) := by rw [List.take_of_length_le (by have := HNA.out; omega), List.take_of_length_le (by have := HNA.out; omega)]
                have HY2 := hide hy
                clear hy hok hlo hsep
                go_upto_region 12 with (go_at_call 29; refine CN.out.mono ?_; rintro e w2 ⟨rfl, hg⟩; obtain ⟨y2, rfl⟩ := hg.later; clear hg)
                obtain ⟨W3, hW3⟩ : ∃ W3, W3 = y2.now.alloc (.cells #[.slice none 0 0, .int .u64 0] 53) := ⟨_, rfl⟩
                have hg3 : Grows y.now W3 := by rw [hW3]; exact y2.grows.new _
                rw [← hW3]
                clear hW3
                have HS3 := hide (HS.out.grow hg3)
                have hy3 := HY2.out.grow hg3
                obtain ⟨bx, hbx⟩ : ∃ b, b = y2.now.heap.size := ⟨_, rfl⟩
                rw [← hbx]
                clear hbx
                obtain ⟨y3, rfl⟩ := (y.grows.trans hg3).later
                have HY3 := hide hy3
                clear hy3 HY2
                have CT := hide (fun (X : World) (g : Grows y3.now X) => show Calls Tryz.prog 30 #[.pointer (some ⟨b, 0, none⟩)] X fun e w' => e = .returned (.int .i64 (na : Int)) ∧ Grows X w' from by
                  have hq := yeTold b NN E sN tN' Ag cg At ct rsT (all.take i) Aw cw rsW [] X (HY3.out.grow g)
                  rw [show (((all.take i).length : Nat) : Int) = (na : Int) by rw [List.length_take]; have := HNA.out; omega] at hq
                  exact hq)
                have CWT := hide (fun (X : World) (g : Grows y3.now X) => yeWaits b NN E sN tN' Ag cg At ct rsT (all.take i) Aw cw rsW [] X (HY3.out.grow g) (by simp) (fun p hp => by cases hp))
                have hmin : ((na : Int) != min ((i : Int) + 1) (na : Int)) = false := by
                  rw [show min ((i : Int) + 1) (na : Int) = (na : Int) by omega]
                  simp
                have hda : decide ((i : Int) < (na : Int)) = false := decide_eq_false (by omega)
                clear CN
                go_wp2_with fail
                ((first | refine wp_region_gen (by kernel_rfl) (by kernel_rfl) ?_); (repeat' (first | (refine gLex_val0 rfl (by kernel_rfl) (fun K hK => ?_); (go_simp; (try (simp only [↓IntWalk.iteOmega]; try go_simp)); (try simp (disch := omega) only [IntWalk.i64_in]); (try simp (disch := omega) only [IntWalk.u64_in]); first | (refine hK _ ?_; clear hK K) | (apply Exists.intro; refine ⟨fun x => ?_, hK _ ?_⟩; (first | (go_at_call 30; exact CT.out _ GG)); clear hK K))) | (refine gLex_undef rfl rfl rfl (by kernel_rfl) (fun K hK => ?_); go_simp; refine hK _ ?_; clear hK K) | (refine gLex_ask rfl rfl rfl ?_; first | (apply gAsk_yes; kernel_rfl; intro K hK; (go_simp; (try (simp only [↓IntWalk.iteOmega]; try go_simp)); (try simp (disch := omega) only [IntWalk.i64_in]); (try simp (disch := omega) only [IntWalk.u64_in]); first | (refine hK _ ?_; clear hK K) | (apply Exists.intro; refine ⟨fun x => ?_, hK _ ?_⟩; (first | (go_at_call 30; exact CT.out _ GG)); clear hK K))) | ((first | apply gAsk_no1 | apply gAsk_no2); kernel_rfl; intro K hK; simp [go_sem]; refine hK _ ?_; clear hK K) | (apply gAsk_part; kernel_rfl; all_goals (intro h K hK; (try simp only [Bool.not_true] at h); (try simp only [Bool.not_false] at h); (try simp only [decide_eq_true_eq] at h); (try simp only [decide_eq_false_iff_not] at h); first | (exfalso; first | contradiction | omega) | (go_simp; (try (simp only [↓IntWalk.iteOmega]; try go_simp)); (try simp (disch := omega) only [IntWalk.i64_in]); (try simp (disch := omega) only [IntWalk.u64_in]); first | (refine hK _ ?_; clear hK K) | (apply Exists.intro; refine ⟨fun x => ?_, hK _ ?_⟩; (first | (go_at_call 30; exact CT.out _ GG)); clear hK K))))))); all_goals ((apply gLex_end); intro y4))
                go_upto_region 15 with (go_at_call 31; refine (CWT.out _ (y4.grows.trans GG)).mono ?_; rintro e w' ⟨A4, c4, rs4, rfl, ho4, hg⟩; have hg5 := (y3.grows.trans y4.grows).trans hg; have hg35 := y4.grows.trans hg; obtain ⟨y5, rfl⟩ := hg5.later; have hl4 : rs4.length = 0 := ho4.len; clear hg ho4 hg5)
                (try rw [hl4])
                clear hl4
                have HS5 := hide (HS3.out.grow hg35)
                rw [hti] at HS5
                have hdd : decide ((i : Int) + 1 < (na : Int)) = false := decide_eq_false (by omega)
                have hd2 : decide ((na : Int) ≤ (i : Int) + 1) = true := decide_eq_true (by omega)
                clear CT CWT HS HS3
                go_wp2_with fail
                ((first | refine wp_region_gen (by kernel_rfl) (by kernel_rfl) ?_); (repeat' (first | (refine gLex_val0 rfl (by kernel_rfl) (fun K hK => ?_); (go_simp; (try (simp only [↓IntWalk.iteOmega]; try go_simp)); (try simp (disch := omega) only [IntWalk.i64_in]); (try simp (disch := omega) only [IntWalk.u64_in]); first | (refine hK _ ?_; clear hK K) | (apply Exists.intro; refine ⟨fun x => ?_, hK _ ?_⟩; (first | fail); clear hK K))) | (refine gLex_undef rfl rfl rfl (by kernel_rfl) (fun K hK => ?_); go_simp; refine hK _ ?_; clear hK K) | (refine gLex_ask rfl rfl rfl ?_; first | (apply gAsk_yes; kernel_rfl; intro K hK; (go_simp; (try (simp only [↓IntWalk.iteOmega]; try go_simp)); (try simp (disch := omega) only [IntWalk.i64_in]); (try simp (disch := omega) only [IntWalk.u64_in]); first | (refine hK _ ?_; clear hK K) | (apply Exists.intro; refine ⟨fun x => ?_, hK _ ?_⟩; (first | fail); clear hK K))) | ((first | apply gAsk_no1 | apply gAsk_no2); kernel_rfl; intro K hK; simp [go_sem]; refine hK _ ?_; clear hK K) | (apply gAsk_part; kernel_rfl; all_goals (intro h K hK; (try simp only [Bool.not_true] at h); (try simp only [Bool.not_false] at h); (try simp only [decide_eq_true_eq] at h); (try simp only [decide_eq_false_iff_not] at h); first | (exfalso; first | contradiction | omega) | (go_simp; (try (simp only [↓IntWalk.iteOmega]; try go_simp)); (try simp (disch := omega) only [IntWalk.i64_in]); (try simp (disch := omega) only [IntWalk.u64_in]); first | (refine hK _ ?_; clear hK K) | (apply Exists.intro; refine ⟨fun x => ?_, hK _ ?_⟩; (first | fail); clear hK K))))))); all_goals ((apply gLex_end); intro y6))
                go_wp2_with fail
                go_loopw [17] (fun kk wr => kk = .int .i64 0 ∧ ∃ z : Later y5.now, wr = z.now) (fun _ _ => 0)
                case atStart => exact ⟨by go_num, ⟨_, GG⟩, rfl⟩
                case round =>
                  as_aux_lemma =>
                    obtain ⟨rfl, z, rfl⟩ := hrel
                    go_wp2_with fail
                    have hgz : Grows wg z.now := y5.grows.trans z.grows
                    have HSZ := hide (HS5.out.grow z.grows)
                    obtain ⟨z9, hz9⟩ := hgz.later
                    rw [hz9] at HSZ ⊢
                    clear hz9
                    go_roundw
                    case measure => simp [Go.RowKit.intOf]; omega
                    case rel => exact ⟨i + 1, by go_num, .inl (by omega), z9, rfl, HSZ⟩
          · go_wp2_with (go_at_call 18; refine (C5.out _).mono ?_; rintro e w' ⟨rfl, hg⟩; obtain ⟨x9, rfl⟩ := hg.later; clear hg)
            go_ret
            exact ⟨rfl, hgg.trans (y.grows.trans GG)⟩
end Go.Proofs.YtgplpgldhoelcaaGreat

namespace Go.Proofs.YtgplpgldhoelcaaGreat.lawYenSteps
open Go Go.ChangeShapes Go.WideShapes Go.ChangeAt Go.RowKit Go.Proofs.YtgplpgldhoelcaaGreat

theorem own : ownKnob Tryz.prog.godebug = none := by kernel_rfl
theorem laidOut : laidOutB Tryz.prog = true := by kernel_rfl

set_option maxRecDepth 100000 in
theorem lifted (os : Os) (started : os.Started) (H : Type) (enc : TypeId × Value → H) :
    ReturnsInHanded {} Tryz.checked os 6 .any (Rows.yenStepsSpec.pre6 enc Tryz.prog Tryz.f6 Rows.yenStepsRow.domain false) (Rows.yenStepsSpec.post enc Tryz.prog Tryz.f6 false true false false) := by
  refine returnsInHanded_of_change (C := Tryz.checked) own started (by kernel_rfl) Tryz.func6
    (ChangeSpec.witness6 (enc := enc) (C := Tryz.checked) false ⟨#[], #[.agg #[.int .i64 0, .slice none 0 0], .int .i64 0, .int .i64 0, .int .i64 0], []⟩ 8 (by kernel_rfl) (by kernel_rfl) (by kernel_rfl) (by kernel_rfl)) ?_
  intro W base args ds gs before hval0 hW hcnd _
  have hval : ∀ (j : Nat) t v, Tryz.f6.params[j]? = some t → args[j]? = some v → Value.okWide Tryz.prog W .any base t v := hval0
  have hW' := hW
  obtain ⟨p, q, hA0, hV, rfl, hfz, hnd⟩ := hW
  have hA : DataW.TrodAll enc Tryz.prog W 0 (fun _ => true) true Tryz.f6.params.toList args.toList ds p := hA0
  rw [Tryz.params6] at hA hval
  obtain ⟨v0, vs0, d0, ds0, p0, q0, hargs, rfl, rfl, h0, r0⟩ := trodAll_cons hA
  obtain ⟨v1, vs1, d1, ds1, p1, q1, rfl, rfl, rfl, h1, r1⟩ := trodAll_cons r0
  obtain ⟨v2, vs2, d2, ds2, p2, q2, rfl, rfl, rfl, h2, r2⟩ := trodAll_cons r1
  obtain ⟨v3, vs3, d3, ds3, p3, q3, rfl, rfl, rfl, h3, r3⟩ := trodAll_cons r2
  obtain ⟨rfl, rfl, rfl⟩ := trodAll_nil r3
  obtain rfl : args = #[v0, v1, v2, v3] := by cases args; simp_all
  obtain ⟨rfl, rfl⟩ := trodVars_none hV
  have k0 := h0
  have lt0 : ∀ x ∈ p0, x.block < W.heap.size := by obtain ⟨m, hm⟩ := k0; exact DataW.trod_lt m _ _ _ hm
  obtain ⟨a0, A0, n0, c0, z0, rfl, x0, l0, w0, u0⟩ := open_graph Tryz.underlying35 Tryz.underlying3 Tryz.underlying33 Tryz.underlying84 Tryz.underlying3 Tryz.underlying3 Tryz.underlying41 ⟨rfl, rfl, rfl⟩ ⟨by kernel_rfl, by kernel_rfl, by kernel_rfl⟩ (by kernel_rfl) (by kernel_rfl) (by kernel_rfl) (hval 0 35 v0 rfl rfl) h0
  have k1 := h1
  have lt1 : ∀ x ∈ p1, x.block < W.heap.size := by obtain ⟨m, hm⟩ := k1; exact DataW.trod_lt m _ _ _ hm
  obtain ⟨a1, rfl, w1⟩ := open_i64 Tryz.underlying3 (hval 1 3 v1 rfl rfl) h1
  have k2 := h2
  have lt2 : ∀ x ∈ p2, x.block < W.heap.size := by obtain ⟨m, hm⟩ := k2; exact DataW.trod_lt m _ _ _ hm
  obtain ⟨a2, rfl, w2⟩ := open_i64 Tryz.underlying3 (hval 2 3 v2 rfl rfl) h2
  have k3 := h3
  have lt3 : ∀ x ∈ p3, x.block < W.heap.size := by obtain ⟨m, hm⟩ := k3; exact DataW.trod_lt m _ _ _ hm
  obtain ⟨a3, rfl, w3⟩ := open_i64 Tryz.underlying3 (hval 3 3 v3 rfl rfl) h3
  clear hA0 hval0
  refine (yenStepsW a0 A0 n0 c0 z0 a1 a2 a3 W x0 l0 w0 u0 w1 w2 w3).mono fun e W' ⟨he, bel⟩ => ?_
  subst he
  exact ⟨_, rfl, _, _, _, [], _, [], hW', trodAll_mk1 (shut_bool Tryz.underlying4 _), (trodAll_cons_mk (Below.trod laidOut (by kernel_rfl) (of_decide_eq_true (by kernel_rfl)) k0 bel lt0) (trodAll_cons_mk (Below.trod laidOut (by kernel_rfl) (of_decide_eq_true (by kernel_rfl)) k1 bel lt1) (trodAll_cons_mk (Below.trod laidOut (by kernel_rfl) (of_decide_eq_true (by kernel_rfl)) k2 bel lt2) (trodAll_cons_mk (Below.trod laidOut (by kernel_rfl) (of_decide_eq_true (by kernel_rfl)) k3 bel lt3) trodAll_mk0)))), rfl, Below.frame bel _, fun h => by cases h⟩

theorem over : Rows.yenStepsRow.holds Tryz.pinned (OpenSpec.ofChange Rows.yenStepsSpec) :=
  OpenClaim.holds_of_wide 6 Tryz.f6 rfl rfl rfl rfl rfl rfl rfl ⟨rfl, rfl, rfl, rfl, rfl⟩ rfl rfl rfl rfl rfl (by kernel_rfl) Tryz.func6 (by kernel_rfl)
    (of_decide_eq_true (by kernel_rfl)) (by unfold Func.isWrapper; first | (rw [if_pos (by decide +kernel)]; kernel_rfl) | (rw [if_neg (by decide +kernel)]; exact ⟨rfl, rfl⟩))
    (fun os started H enc _ => lifted os started H enc)

end Go.Proofs.YtgplpgldhoelcaaGreat.lawYenSteps
namespace Go.Proofs.YtgplpgldhoelcaaGreat
theorem yenSteps_proved : Rows.YenStepsSaid := lawYenSteps.over
#print axioms yenSteps_proved
end Go.Proofs.YtgplpgldhoelcaaGreat

