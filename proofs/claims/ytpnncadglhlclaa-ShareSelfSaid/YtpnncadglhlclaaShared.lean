/- Contracts: what two rows of edges share, by the program and by its answer. -/
import Derived.Test.YtpnncadglhlclaaShPlain
namespace Go.Proofs.Ytpnncadglhlclaa
open Go Go.RowKit Go.Maps
theorem wrap_add_wrap (a b : Int) : IntKind.u64.wrap (IntKind.u64.wrap a + b) = IntKind.u64.wrap (a + b) := by
  rw [IntKind.wrap_u64, IntKind.wrap_u64, IntKind.wrap_u64]
  omega
theorem fsK_step (W : Int → Int) (q : Int → Bool) (l : List Int) (k : Nat) : fsK W q l (k + 1) = fsK W q l k + (if q (gi l k) && !decide (gi l k ∈ l.take k) then W (gi l k) else 0) := rfl

set_option maxRecDepth 20000 in
set_option maxHeartbeats 4000000 in
theorem pShared (N : Int) (A : Option Addr) (m c : Nat) (E : List Edg) (B : Option Addr) (n d : Nat) (a : List Int) (B' : Option Addr) (n' d' : Nat) (b : List Int) (w : World) (h : Rd w A 3 m (esCells E)) (hm : m ≤ 1000000)
    (ha : Rd w B 1 n (a.map (.int .i64))) (hn : n ≤ 1000000) (hb : Rd w B' 1 n' (b.map (.int .i64))) (hn' : n' ≤ 1000000) :
    Calls Try.prog 99 #[.agg #[.int .i64 N, .slice A m c], .slice B n d, .slice B' n' d'] w fun e w' => e = .returned (.int .u64 (sharedV N E a b)) ∧ Grows w w' := by
  have HL := hide h.elen
  have HLa := hide (show a.length = n by simpa using ha.len)
  have HLb := hide (show b.length = n' by simpa using hb.len)
  have HR := hide h
  have HRa := hide ha
  have HRb := hide hb
  have HR0 := hide (h.new (.cells #[.int .i64 N, .slice A m c] 24))
  have HRa0 := hide (ha.new (.cells #[.int .i64 N, .slice A m c] 24))
  have HRb0 := hide (hb.new (.cells #[.int .i64 N, .slice A m c] 24))
  clear h ha hb
  have C1 := fun (W : World) (g : Grows w W) => pEdges N A m c E B n d a W (HR.out.grows g) hm (HRa.out.grows g) hn
  have C2 := fun (W : World) (g : Grows w W) => pEdges N A m c E B' n' d' b W (HR.out.grows g) hm (HRb.out.grows g) hn'
  cases h1 : edgesB N E a with
  | false =>
    have HW : Hid (sharedV N E a b = 0) := by unfold sharedV; rw [h1]; rfl
    rw [h1] at C1
    have H1 := hide C1
    clear C1 C2 h1
    go_enter Try.func99, Try.ntmps99
    go_wp2_with fail
    refine (H1.out _ (by repeat (first | exact Grows.refl _ | refine Grows.now ?_ _ | refine Grows.new ?_ _ | refine Grows.drewN ?_ _ | refine Grows.drew ?_ | assumption | (refine Grows.set ?_ (by first | omega | (simp; done) | (simp; omega)) _)))).mono ?_; rintro e w' ⟨rfl, hg⟩; obtain ⟨x1, rfl⟩ := Grows.later hg; clear hg
    go_wp2
    go_ret
    exact ⟨ret_int HW.out.symm, (by repeat (first | exact Grows.refl _ | refine Grows.now ?_ _ | refine Grows.new ?_ _ | refine Grows.drewN ?_ _ | refine Grows.drew ?_ | assumption | (refine Grows.set ?_ (by first | omega | (simp; done) | (simp; omega)) _)))⟩
  | true =>
  cases h2 : edgesB N E b with
  | false =>
    have HW : Hid (sharedV N E a b = 0) := by unfold sharedV; rw [h1, h2]; rfl
    rw [h1] at C1
    rw [h2] at C2
    have H1 := hide C1
    have H2 := hide C2
    clear C1 C2 h1 h2
    go_enter Try.func99, Try.ntmps99
    go_wp2_with fail
    refine (H1.out _ (by repeat (first | exact Grows.refl _ | refine Grows.now ?_ _ | refine Grows.new ?_ _ | refine Grows.drewN ?_ _ | refine Grows.drew ?_ | assumption | (refine Grows.set ?_ (by first | omega | (simp; done) | (simp; omega)) _)))).mono ?_; rintro e w' ⟨rfl, hg⟩; obtain ⟨x1, rfl⟩ := Grows.later hg; clear hg
    go_wp2_with fail
    refine (H2.out _ (by repeat (first | exact Grows.refl _ | refine Grows.now ?_ _ | refine Grows.new ?_ _ | refine Grows.drewN ?_ _ | refine Grows.drew ?_ | assumption | (refine Grows.set ?_ (by first | omega | (simp; done) | (simp; omega)) _)))).mono ?_; rintro e w' ⟨rfl, hg⟩; obtain ⟨x2, rfl⟩ := Grows.later2 hg; clear hg
    go_wp2
    go_ret
    exact ⟨ret_int HW.out.symm, (by repeat (first | exact Grows.refl _ | refine Grows.now ?_ _ | refine Grows.new ?_ _ | refine Grows.drewN ?_ _ | refine Grows.drew ?_ | assumption | (refine Grows.set ?_ (by first | omega | (simp; done) | (simp; omega)) _)))⟩
  | true =>
    have HW : Hid (sharedV N E a b = IntKind.u64.wrap (fsK (eW E) (fun x => decide (x ∈ a)) b b.length)) := by unfold sharedV; rw [h1, h2]; rfl
    have HA := hide (edgesB_spec h1).2
    have HB := hide (edgesB_spec h2).2
    rw [h1] at C1
    rw [h2] at C2
    have H1 := hide C1
    have H2 := hide C2
    clear C1 C2 h1 h2
    have hmm := @run_makeMap Try.prog
    go_enter Try.func99, Try.ntmps99
    go_wp2_with fail
    refine (H1.out _ (by repeat (first | exact Grows.refl _ | refine Grows.now ?_ _ | refine Grows.new ?_ _ | refine Grows.drewN ?_ _ | refine Grows.drew ?_ | assumption | (refine Grows.set ?_ (by first | omega | (simp; done) | (simp; omega)) _)))).mono ?_; rintro e w' ⟨rfl, hg⟩; obtain ⟨x1, rfl⟩ := Grows.later hg; clear hg
    go_wp2_with fail
    refine (H2.out _ (by repeat (first | exact Grows.refl _ | refine Grows.now ?_ _ | refine Grows.new ?_ _ | refine Grows.drewN ?_ _ | refine Grows.drew ?_ | assumption | (refine Grows.set ?_ (by first | omega | (simp; done) | (simp; omega)) _)))).mono ?_; rintro e w' ⟨rfl, hg⟩; obtain ⟨x2, rfl⟩ := Grows.later2 hg; clear hg
    go_wp2
    have hx2 : w.heap.size + 1 ≤ x2.now.heap.size := by have := x2.size; simp at this; omega
    have HM := hide (MapII.made x2.now)
    have hG := (x2.grows.new (.map #[] 0)).later
    generalize hMB : x2.now.heap.size = M at *
    clear hMB
    have HG := hide hG
    clear hG
    go_loopw [27] (fun i wr => ∃ k : Nat, k ≤ n ∧ i = .int .i64 (k : Int) ∧ (∃ y : Later (w.alloc (.cells #[.int .i64 N, .slice A m c] 24)), wr = y.now) ∧ ∃ s, MapII wr M k s (fun z => if z ∈ a.take k then some z else none)) (fun i _ => n - (intOf i).toNat)
    case atStart => exact ⟨0, by omega, by go_num, HG.out, 0, by simpa using HM.out⟩
    case round =>
      obtain ⟨q, hq, rfl, ⟨y, rfl⟩, s, hmap⟩ := hrel
      by_cases hend : n ≤ q
      · have hd : decide (q < n) = false := by simp; omega
        have HM2 : Hid (MapII y.now M n s (fun z => if decide (z ∈ a) && !decide (z ∈ b.take 0) then some z else none)) := by
          have hq' : q = n := by omega
          have e : a.take n = a := by rw [← HLa.out]; exact List.take_length
          rw [hq', e] at hmap
          simpa [Hid] using hmap
        clear hmap HM HG
        go_wp2_with fail
        go_loopw [37, 6] (fun i u wr => ∃ k : Nat, k ≤ n' ∧ i = .int .i64 (k : Int) ∧ u = .int .u64 (IntKind.u64.wrap (fsK (eW E) (fun x => decide (x ∈ a)) b k)) ∧ (∃ y : Later (w.alloc (.cells #[.int .i64 N, .slice A m c] 24)), wr = y.now) ∧
          ∃ s, MapII wr M n s (fun z => if decide (z ∈ a) && !decide (z ∈ b.take k) then some z else none)) (fun i _ _ => n' - (intOf i).toNat)
        case atStart => exact ⟨0, by omega, by go_num, by simp [fsK, IntKind.wrap_u64], ⟨_, rfl⟩, s, HM2.out⟩
        case round =>
          obtain ⟨r, hr, rfl, rfl, ⟨v, rfl⟩, s', hmap⟩ := hrel
          by_cases hend2 : n' ≤ r
          · have hd2 : decide (r < n') = false := by simp; omega
            have HE : Hid (fsK (eW E) (fun x => decide (x ∈ a)) b r = fsK (eW E) (fun x => decide (x ∈ a)) b b.length) := by rw [HLb.out, show r = n' by omega]; rfl
            clear hmap
            go_wp2
            go_ret
            exact ⟨ret_int (by rw [HW.out, HE.out]), (by repeat (first | exact Grows.refl _ | refine Grows.now ?_ _ | refine Grows.new ?_ _ | refine Grows.drewN ?_ _ | refine Grows.drew ?_ | assumption | (refine Grows.set ?_ (by first | omega | (simp; done) | (simp; omega)) _)))⟩
          · obtain ⟨bb, off, rfl, hc⟩ := HRb0.out.ints (by omega)
            have hc1 := hc r (by omega)
            obtain ⟨hb0, hb1⟩ := HB.out r (by have := HLb.out; omega)
            have hw : I64 (gi b r) := ⟨by omega, by have := HL.out; omega⟩
            have hm2 : gi b r < m := by have := HL.out; omega
            have HH := hide hmap
            clear hc hmap
            cases hin : (decide (gi b r ∈ a) && !decide (gi b r ∈ b.take r)) with
            | false =>
              have HF : Hid ((if (decide (gi b r ∈ a) && !decide (gi b r ∈ b.take r)) = true then some (gi b r) else none : Option Int) = none) := by rw [hin]; rfl
              have HN : Hid (fsK (eW E) (fun x => decide (x ∈ a)) b (r + 1) = fsK (eW E) (fun x => decide (x ∈ a)) b r) := by rw [fsK_step, hin]; exact Int.add_zero _
              have HQ : Hid ((fun z => if decide (z ∈ a) && !decide (z ∈ b.take (r + 1)) then some z else none : Int → Option Int) = (fun z => if decide (z ∈ a) && !decide (z ∈ b.take r) then some z else none)) := by
                funext z
                by_cases hz : z = gi b r
                · rw [hz, hin]
                  have : (decide (gi b r ∈ a) && !decide (gi b r ∈ b.take (r + 1))) = false := by
                    rw [decide_eq_true ((take_mem_succ (by have := HLb.out; omega) _).2 (.inr rfl))]; simp
                  rw [this]
                · have : z ∈ b.take (r + 1) ↔ z ∈ b.take r := by
                    rw [take_mem_succ (by have := HLb.out; omega)]; simp [hz]
                  simp only [this]
              clear hin
              go_wp2_with (at_lookup; refine wp_mapGetOk rfl _ _ rfl M n s' _ rfl HH.out _ rfl hw ?_; rw [HF.out]; simp only [Option.isSome_none, Option.getD_none])
              go_roundw
              case measure => simp [intOf]; omega
              case rel => exact ⟨r + 1, by omega, by go_num, by rw [HN.out], ⟨_, rfl⟩, s', by rw [HQ.out]; exact HH.out⟩
            | true =>
              have HF : Hid ((if (decide (gi b r ∈ a) && !decide (gi b r ∈ b.take r)) = true then some (gi b r) else none : Option Int) = some (gi b r)) := by rw [hin]; rfl
              have HN : Hid (fsK (eW E) (fun x => decide (x ∈ a)) b (r + 1) = fsK (eW E) (fun x => decide (x ∈ a)) b r + (ge E (gi b r).toNat).w) := by rw [fsK_step, hin]; rfl
              have HQ : Hid ((fun z => if z = gi b r then none else if decide (z ∈ a) && !decide (z ∈ b.take r) then some z else none : Int → Option Int) = (fun z => if decide (z ∈ a) && !decide (z ∈ b.take (r + 1)) then some z else none)) := by
                funext z
                by_cases hz : z = gi b r
                · rw [if_pos hz, hz]
                  have : (decide (gi b r ∈ a) && !decide (gi b r ∈ b.take (r + 1))) = false := by
                    rw [decide_eq_true ((take_mem_succ (by have := HLb.out; omega) _).2 (.inr rfl))]; simp
                  rw [this]; rfl
                · have : z ∈ b.take (r + 1) ↔ z ∈ b.take r := by
                    rw [take_mem_succ (by have := HLb.out; omega)]; simp [hz]
                  rw [if_neg hz]
                  simp only [this]
              clear hin
              obtain ⟨eb, eoff, rfl, hce⟩ := HR0.out.edges (by omega)
              obtain ⟨_, _, hc3⟩ := hce (gi b r).toNat (by omega)
              clear hce
              go_wp2_with (first
                | (at_lookup; refine wp_mapGetOk rfl _ _ rfl M n s' _ rfl HH.out _ rfl hw ?_; rw [HF.out]; simp only [Option.isSome_some, Option.getD_some])
                | (at_delete; refine wp_mapDel rfl _ _ rfl M n s' _ rfl HH.out _ rfl hw ?_; intro w1 hmap1 hg1))
              obtain ⟨y1, rfl⟩ := (v.grows.row (by simp; omega) hg1).later
              go_roundw
              case measure => simp [intOf]; omega
              case rel => exact ⟨r + 1, by omega, by go_num, by rw [wrap_add_wrap, HN.out], ⟨_, rfl⟩, _, by rw [← HQ.out]; exact hmap1⟩
      · obtain ⟨bb, off, rfl, hc⟩ := HRa0.out.ints (by omega)
        have hc1 := hc q (by omega)
        obtain ⟨ha0, ha1⟩ := HA.out q (by have := HLa.out; omega)
        have hw : I64 (gi a q) := ⟨by omega, by have := HL.out; omega⟩
        have HH := hide hmap
        clear hc hmap
        have HQ : Hid ((fun z => if z = gi a q then some (gi a q) else if z ∈ a.take q then some z else none : Int → Option Int) = (fun z => if z ∈ a.take (q + 1) then some z else none)) := by
          funext z
          have := take_mem_succ (l := a) (k := q) (by have := HLa.out; omega) z
          by_cases hz : z = gi a q
          · rw [if_pos hz, if_pos (this.2 (.inr hz)), hz]
          · rw [if_neg hz]
            have : z ∈ a.take (q + 1) ↔ z ∈ a.take q := by rw [this]; simp [hz]
            simp only [this]
        go_wp2_with (at_mapUpdate; refine wp_mapPut rfl _ _ _ rfl M q s _ rfl HH.out (by unfold maxLen; omega) _ _ rfl rfl hw hw ?_; intro w1 hmap1 hg1)
        have hG1 := (y.grows.row (by simp; omega) hg1).later
        obtain ⟨y1, rfl⟩ := hG1
        go_roundw
        case measure => simp [intOf]; omega
        case rel => exact ⟨q + 1, by omega, by go_num, ⟨_, rfl⟩, _, by rw [← HQ.out]; exact hmap1⟩

end Go.Proofs.Ytpnncadglhlclaa
