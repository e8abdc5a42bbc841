/- The edges of a node, handed over one by one. -/
import Derived.Test.YtpnncadglhlclaaAdj
import Derived.Test.YtpnncadglhlclaaRange
import Derived.Test.YtpnncadglhlclaaGenIn
import Derived.RangeFuncNested
import Derived.RangeFuncBound
import Derived.Shelf.Abstract
import Derived.Shelf.RegionOpen
import Derived.OwnWalkIn
import Derived.TacticsInMore
import Derived.LoopNIn
import Derived.LoopIn
namespace Go.Proofs.Ytpnncadglhlclaa
open Go Go.RowKit
attribute [local go_sem] Oper.semAt_some
set_option maxHeartbeats 1000000 in
theorem adjEach (b : Nat) (v : Int) (back : Bool) (w : World) : Calls Try.prog 73 #[.pointer (some ⟨b, 0, none⟩), .int .i64 v, .bool back] w fun e w' =>
    ∃ b1, e = .returned (.func (.func 109) #[] #[.pointer (some ⟨b1, 0, none⟩), .pointer (some ⟨b1 + 1, 0, none⟩), .pointer (some ⟨b1 + 1 + 1, 0, none⟩)]) ∧ w.heap.size = b1 ∧
      Arr w' b1 111 [.pointer (some ⟨b, 0, none⟩)] ∧ Arr w' (b1 + 1) 3 [.int .i64 v] ∧ Arr w' (b1 + 1 + 1) 4 [.bool back] ∧ Grows w w' := by
  go_enter Try.func73, Try.ntmps73
  go_wp2
  go_ret
  refine ⟨w.heap.size, rfl, rfl, ⟨by simp [heap_push, Array.getElem_push, Array.getElem?_push, eq_add2]⟩, ⟨by simp [heap_push, Array.getElem_push, Array.getElem?_push, eq_add2]⟩, ⟨by simp [heap_push, Array.getElem_push, Array.getElem?_push, eq_add2]⟩, (by repeat (first | exact Grows.refl _ | refine Grows.now ?_ _ | refine Grows.new ?_ _ | refine Grows.drewN ?_ _ | refine Grows.drew ?_ | assumption | (refine Grows.set ?_ (by first | omega | (simp; done) | (simp; omega)) _)))⟩
def encE (E : List Edg) (i : Nat) : Array Value := #[.int .i64 (i : Int), eVal (ge E i)]
set_option maxRecDepth 20000 in
set_option maxHeartbeats 2000000 in
theorem each_gives (F B M0 : Nat → Prop) (b N : Nat) (E : List Edg) (v : Nat) (back : Bool) (b1 : Nat) (w : World) (hA : AdjAt F w b N E) (hF : ∀ k, F k → B k ∨ M0 k) (hE : InN N E) (hv : v < N) (hn : E.length ≤ 1000000) (hN : N ≤ 100000)
    (hm : ∀ k, M0 k → k < w.heap.size) (m1 : B b1 ∨ M0 b1) (m2 : B (b1 + 1) ∨ M0 (b1 + 1)) (m3 : B (b1 + 1 + 1) ∨ M0 (b1 + 1 + 1))
    (a1 : Arr w b1 111 [.pointer (some ⟨b, 0, none⟩)]) (a2 : Arr w (b1 + 1) 3 [.int .i64 (v : Int)]) (a3 : Arr w (b1 + 1 + 1) 4 [.bool back]) :
    Gives Try.prog 109 #[.pointer (some ⟨b1, 0, none⟩), .pointer (some ⟨b1 + 1, 0, none⟩), .pointer (some ⟨b1 + 1 + 1, 0, none⟩)] (encE E) B M0 (rowN (nN E back) E.length v) w := by
  intro l J Jx W hkW hJ hJx hY h0
  have HJ := hide hJ
  have HY := hide hY
  have H0 := hide h0
  have HE := hide hE
  have hF2 : ∀ k, F k → ¬ ¬ (B k ∨ M0 k) := fun k hk h1 => h1 (hF k hk)
  have HF := hide hF2
  have HA := hide (hA.touch hkW hF2)
  have i1 : Arr W b1 111 [.pointer (some ⟨b, 0, none⟩)] := ⟨hkW.at m1 a1.is⟩
  have i2 : Arr W (b1 + 1) 3 [.int .i64 (v : Int)] := ⟨hkW.at m2 a2.is⟩
  have i3 : Arr W (b1 + 1 + 1) 4 [.bool back] := ⟨hkW.at m3 a3.is⟩
  have C := hide (adjRow F b N E v back W HA.out HE.out hv hn hN)
  have hmW : ∀ k, M0 k → k < W.heap.size := fun k hk => Nat.lt_of_lt_of_le (hm k hk) hkW.size
  have HM := hide hmW
  have HM1 := hide m1
  clear hJ hY h0 hE hA hkW a1 a2 a3 hm hmW hF hF2 m2 m3
  have hrl : Hid ((rowN (nN E back) E.length v).length = cntN (nN E back) v E.length) := rowN_len _ _ _
  have hcl := cntN_le (nN E back) v E.length
  generalize hxs : rowN (nN E back) E.length v = xs at *
  generalize hcn : cntN (nN E back) v E.length = cn at *
  have HXS := hide hxs
  clear hxs hcn
  refine callsIn_of_wp Try.func109 rfl trivial ?_ rfl
  simp only [Try.ntmps109, List.size_toArray, List.length_cons, List.length_nil, Nat.reduceAdd, Nat.reduceSub, Array.replicate_succ, Array.replicate_zero, List.push_toArray, List.append_toArray, List.nil_append, List.cons_append]
  gi_wp2_with (gi_at_call 110; refine (calls_in wideF_wide C.out).mono ?_; rintro e w' ⟨A, rfl, hr, hg⟩; obtain ⟨x1, rfl⟩ := hg.later; have HR := hide hr; clear hg hr)
  have HK1 : Hid (Keeps B M0 W x1.now) := x1.grows.touch _
  have H1 : Hid (J [] M0 x1.now) := HJ.out [] _ W _ _ H0.out (x1.grows.touch _) (fun k hk => ⟨.inl hk, Nat.lt_of_lt_of_le (HM.out k hk) x1.size⟩)
  clear H0
  gi_loopw [12] (fun s wr => ∃ k : Nat, k ≤ cn ∧ s = .int .i64 (k : Int) ∧ Keeps B M0 W wr ∧ J (xs.take k) M0 wr) (fun s _ => cn - (Go.RowKit.intOf s).toNat)
  case atStart => exact ⟨0, by omega, by go_num, HK1.out, H1.out⟩
  case round =>
    obtain ⟨k, hk, rfl, hkp, hj⟩ := hrel
    have j1 : Arr wr b1 111 [.pointer (some ⟨b, 0, none⟩)] := ⟨hkp.at HM1.out i1.is⟩
    have HAr := hide (HA.out.touch hkp HF.out)
    have HRr := hide (Rd.touch HR.out.1 hkp (fun p hp => HF.out _ (HR.out.2 p hp)))
    have HJ1 := hide hj
    have HKP := hide hkp
    clear hj hkp H1 HK1
    by_cases hlt : k < cn
    · have hxk : k < xs.length := by rw [hrl.out]; exact hlt
      obtain ⟨g, off, rfl, hc⟩ := HRr.out.at_ (by omega)
      have c1 : Holds wr ⟨g, off + k, none⟩ (.int .i64 (gn xs k : Int)) := ⟨hc k _ (nv_at hxk)⟩
      obtain ⟨EA, cE, g1, g2, g3, g4, e1, e2, _, _⟩ := HAr.out
      have hin : gn xs k < E.length := by
        have : (rowN (nN E back) E.length v)[k]? = some (gn xs k) := by rw [HXS.out]; simp [gn, hxk]
        exact rowN_lt _ this
      obtain ⟨ge0, offe, rfl, hce⟩ := e2.edgesH (by omega)
      obtain ⟨q1, q2, q3⟩ := hce _ hin
      have hsp : xs = xs.take k ++ gn xs k :: xs.drop (k + 1) := by
        have : gn xs k = xs[k] := by simp [gn, hxk]
        rw [this, List.getElem_cons_drop, List.take_append_drop]
      obtain ⟨fn, tmps, assign, body, hy, hR⟩ := HY.out _ _ _ _ _ hsp HJ1.out
      unfold encE eVal at hy
      have HRR := hide hR
      have HSP := hide hsp
      clear hc hce hR hsp e2
      gi_wp2
      refine HRR.out.mono ?_
      rintro e W3 (⟨rfl, hJ3, hk3⟩ | ⟨rfl, hJx3, _⟩)
      · have HJ3 := hide hJ3
        have HK3 := hide hk3
        clear hJ3 hk3
        gi_wp2
        go_roundw
        case rel =>
          refine ⟨k + 1, by omega, by go_num, HKP.out.trans HK3.out, ?_⟩
          have e : xs.take (k + 1) = xs.take k ++ [gn xs k] := by
            rw [List.take_succ_eq_append_getElem hxk]
            simp [gn, hxk]
          rw [e]
          exact HJ3.out
        case measure => simp [Go.RowKit.intOf]; omega
      · have HJX := hide hJx3
        clear hJx3
        gi_wp2
        refine bodyPost_ret (results_none rfl _ _ _) rfl ?_
        exact ⟨⟨_, rfl⟩, .inr ⟨xs.take k, gn xs k, xs.drop (k + 1), _, HSP.out, HJX.out⟩⟩
    · have hke : xs.take k = xs := List.take_of_length_le (by rw [hrl.out]; omega)
      have HJ2 := HJ1.out
      rw [hke] at HJ2
      have HJE := hide HJ2
      clear HJ2 hke
      gi_wp2
      go_end0
      exact ⟨⟨_, rfl⟩, .inl ⟨_, HJE.out⟩⟩
end Go.Proofs.Ytpnncadglhlclaa
