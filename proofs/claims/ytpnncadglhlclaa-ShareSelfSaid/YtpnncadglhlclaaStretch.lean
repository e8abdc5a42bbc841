/- Contract: the stretches at which a row goes with another one. -/
import Derived.Test.YtpnncadglhlclaaShare
namespace Go.Proofs.Ytpnncadglhlclaa
open Go Go.RowKit Go.Maps

def prCells (l : List (Int × Int)) : List Value := l.flatMap fun p => [.int .i64 p.1, .int .i64 p.2]
def setEnd (l : List (Int × Int)) (v : Int) : List (Int × Int) := l.dropLast ++ (match l.getLast? with | some p => [(p.1, v)] | none => [])
theorem prCells_app (l : List (Int × Int)) (p : Int × Int) : prCells (l ++ [p]) = prCells l ++ [.int .i64 p.1, .int .i64 p.2] := by simp [prCells]
theorem prCells_len (l : List (Int × Int)) : (prCells l).length = l.length * 2 := by
  induction l with
  | nil => rfl
  | cons p l ih => simp [prCells] at *; omega
theorem setEnd_app (l : List (Int × Int)) (p : Int × Int) (v : Int) : setEnd (l ++ [p]) v = l ++ [(p.1, v)] := by simp [setEnd]
theorem prCells_set (l : List (Int × Int)) (p : Int × Int) (v : Int) : (prCells (l ++ [p])).set (l.length * 2 + 1) (.int .i64 v) = prCells (l ++ [(p.1, v)]) := by
  rw [prCells_app, prCells_app, List.set_append_right _ _ (by rw [prCells_len]; omega), prCells_len, show l.length * 2 + 1 - l.length * 2 = 1 by omega]
  rfl
theorem prCells_at (l : List (Int × Int)) (p : Int × Int) : (prCells (l ++ [p]))[l.length * 2 + 1]? = some (.int .i64 p.2) := by
  rw [prCells_app, List.getElem?_append_right (by rw [prCells_len]; omega), prCells_len, show l.length * 2 + 1 - l.length * 2 = 1 by omega]
  rfl

/-- Behind k elements: where a stretch has begun (-1: none has), and the stretches. -/
def stK (q : Int → Bool) (l : List Int) : Nat → Int × List (Int × Int)
  | 0 => (-1, [])
  | k + 1 => if q (gi l k) then (if (stK q l k).1 = -1 then ((k : Int), (stK q l k).2 ++ [((k : Int), (k : Int) + 1)]) else ((stK q l k).1, setEnd (stK q l k).2 ((k : Int) + 1))) else (-1, (stK q l k).2)
theorem stK_succ (q : Int → Bool) (l : List Int) (k : Nat) : stK q l (k + 1) = if q (gi l k) then (if (stK q l k).1 = -1 then ((k : Int), (stK q l k).2 ++ [((k : Int), (k : Int) + 1)]) else ((stK q l k).1, setEnd (stK q l k).2 ((k : Int) + 1))) else (-1, (stK q l k).2) := rfl
theorem stK_inv (q : Int → Bool) (l : List Int) (k : Nat) : (stK q l k).2.length ≤ k ∧ ((stK q l k).1 = -1 ∨ (0 ≤ (stK q l k).1 ∧ (stK q l k).1 < k ∧ (stK q l k).2 ≠ [])) := by
  induction k with
  | zero => simp [stK]
  | succ k ih =>
    rw [stK_succ]
    split
    · split
      · simp; omega
      · rename_i h1 h2
        obtain ⟨i1, i2⟩ := ih
        rcases i2 with i2 | ⟨i2, i3, i4⟩
        · exact absurd i2 h2
        · have hne := List.dropLast_concat_getLast i4
          refine ⟨?_, .inr ⟨i2, by simp; omega, ?_⟩⟩
          · rw [← hne, setEnd_app]; rw [← hne] at i1; simp at i1 ⊢; omega
          · rw [← hne, setEnd_app]; simp
    · exact ⟨by simp; omega, .inl rfl⟩

def StPost (w : World) (l other : List Int) (e : Ending) (w' : World) : Prop :=
  ∃ B A c, e = .returned (.slice A (stK (fun z => decide (z ∈ other)) l l.length).2.length c) ∧ w.heap.size ≤ B ∧ Own w' B 83 2 A (stK (fun z => decide (z ∈ other)) l l.length).2.length c (prCells (stK (fun z => decide (z ∈ other)) l l.length).2) ∧ Grows w w'

theorem elemPair : Elem 81 83 2 := by
  have h : (Try.prog.info? 83).map (fun i => (i.zero, i.size, i.bytes)) = some (some (.agg #[.int .i64 0, .int .i64 0]), 2, 16) := by kernel_rfl
  obtain ⟨i, hi, hz, hs, hb⟩ := info_parts h
  exact ⟨Try.underlying81, ⟨i, _, 16, hi, hz, hs, hb, rfl, by omega⟩, by omega⟩

set_option maxRecDepth 20000 in
set_option maxHeartbeats 2000000 in
theorem shStretches (A : Option Addr) (n c : Nat) (l : List Int) (A' : Option Addr) (n' c' : Nat) (other : List Int) (w : World) (h : Rd w A 1 n (l.map (.int .i64))) (hn : n ≤ 1000000) (hw : ∀ j, j < n → I64 (gi l j))
    (h' : Rd w A' 1 n' (other.map (.int .i64))) (hn' : n' ≤ 1000000) (hw' : ∀ j, j < n' → I64 (gi other j)) :
    Calls Try.prog 52 #[.slice A n c, .slice A' n' c'] w (StPost w l other) := by
  have HL := hide (show l.length = n by simpa using h.len)
  have HR := hide h
  have HI := hide hw
  have HS := hide (shSet A' n' c' other w h' hn' hw')
  clear h hw h' hw'
  go_enter Try.func52, Try.ntmps52
  go_wp2_with fail
  go_step3
  go_wp2_with fail
  refine (HS.out).mono ?_
  rintro e v1 ⟨b, s, rfl, hb, hmap, hg1⟩
  have HM := hide hmap
  have HR1 := hide (HR.out.grows hg1)
  have HG := hide hg1
  have hbs : w.heap.size ≤ v1.heap.size := hg1.size
  clear hmap hg1 HS
  go_wp2_with fail
  go_step3
  go_wp2_with fail
  go_loopw [13, 4, 6] (fun i u t wr => ∃ k : Nat, k ≤ n ∧ i = .int .i64 (k : Int) ∧ t = .int .i64 (stK (fun z => decide (z ∈ other)) l k).1 ∧ (∃ y : Later v1, wr = y.now) ∧
    ∃ A'' c'', u = .slice A'' (stK (fun z => decide (z ∈ other)) l k).2.length c'' ∧ Own wr v1.heap.size 83 2 A'' (stK (fun z => decide (z ∈ other)) l k).2.length c'' (prCells (stK (fun z => decide (z ∈ other)) l k).2)) (fun i _ _ _ => n - (intOf i).toNat)
  case atStart => exact ⟨0, by omega, by go_num, rfl, ⟨⟨v1, Grows.refl v1⟩, rfl⟩, none, 0, rfl, Own.nil _ _ _ _⟩
  case round =>
    obtain ⟨k, hk, rfl, rfl, ⟨y, rfl⟩, A2, c2, rfl, hown⟩ := hrel
    by_cases hend : n ≤ k
    · have HO := hide hown
      have HE : Hid (k = l.length) := by have := HL.out; show k = l.length; omega
      clear hown
      go_wp2
      rw [Exit.noGoto_ret]
      go_ret
      refine ⟨v1.heap.size, A2, c2, ?_, hbs, ?_, (HG.out.trans y.grows)⟩
      · rw [← HE.out]; rfl
      · rw [← HE.out]; exact HO.out
    · have hN := stK_succ (fun z => decide (z ∈ other)) l k
      have hV := stK_inv (fun z => decide (z ∈ other)) l k
      generalize stK (fun z => decide (z ∈ other)) l k = st at hown hN hV ⊢
      obtain ⟨t0, out⟩ := st
      dsimp only at hown hN hV ⊢
      have HO := hide hown
      have HN := hide hN
      have HV := hide hV
      clear hown hN hV
      obtain ⟨bb, off, rfl, hc⟩ := HR1.out.ints (by omega)
      have hc1 := hc k (by omega)
      have hwk := HI.out k (by omega)
      have HZ := hide (cntF_zero other (gi l k))
      clear hc
      cases hin : decide (gi l k ∈ other) with
      | false =>
        have hz : ((cntF other (gi l k)).getD 0 == 0) = true := by rw [HZ.out, hin]; rfl
        have HN2 : Hid (stK (fun z => decide (z ∈ other)) l (k + 1) = (-1, out)) := by rw [show Hid (stK (fun z => decide (z ∈ other)) l (k + 1) = (-1, out)) = (stK (fun z => decide (z ∈ other)) l (k + 1) = (-1, out)) from rfl, HN.out]; simp only [hin]; rfl
        clear hin
        go_wp2_with (at_lookup; refine wp_mapGet rfl _ _ rfl b n' s _ rfl (HM.out.grows y.grows) _ rfl hwk ?_)
        go_roundw
        case measure => simp [intOf]; omega
        case rel => exact ⟨k + 1, by omega, by go_num, by rw [HN2.out], ⟨_, rfl⟩, A2, c2, by rw [HN2.out], by rw [HN2.out]; exact HO.out⟩
      | true =>
        have hz : ((cntF other (gi l k)).getD 0 == 0) = false := by rw [HZ.out, hin]; rfl
        by_cases ht : t0 = -1
        · have HN2 : Hid (stK (fun z => decide (z ∈ other)) l (k + 1) = ((k : Int), out ++ [((k : Int), (k : Int) + 1)])) := by
            rw [show Hid (stK (fun z => decide (z ∈ other)) l (k + 1) = ((k : Int), out ++ [((k : Int), (k : Int) + 1)])) = (stK (fun z => decide (z ∈ other)) l (k + 1) = ((k : Int), out ++ [((k : Int), (k : Int) + 1)])) from rfl, HN.out]; simp only [hin, ht]; rfl
          subst ht
          have hol : out.length ≤ 1000000 := by have := HV.out.1; omega
          clear hin
          go_wp2_with (first
            | (at_lookup; refine wp_mapGet rfl _ _ rfl b n' s _ rfl (HM.out.grows y.grows) _ rfl hwk ?_)
            | (at_builtin; refine wp_app elemPair rfl _ _ rfl v1.heap.size out.length c2 A2 (prCells out) rfl (HO.out.new _) y.now.heap.size 1 1 [.int .i64 k, .int .i64 k] rfl rfl ?h1 ?h2 (by omega) ?h3 ?_
               case h1 => intro j u hu; simpa using hu
               case h2 => intro u hu; simp at hu; rw [hu]; rfl
               case h3 => have := y.size; simp; omega
               intro A3 c3 w1 hown3 hg3
               obtain ⟨g, cur, rfl, hgB, _⟩ := hown3.at_ (by omega)
               have HO3 := hide hown3
               have HG3 := hide hg3
               have hcell : w1.cell? ⟨g, out.length * 2 + 1, none⟩ = some (.int .i64 k) := hown3.cell rfl (by have := prCells_at out ((k : Int), (k : Int)); rwa [prCells_app] at this)
               have hfz := hown3.frozen rfl (by omega) (out.length * 2 + 1)
               clear hown3 hg3))
          have hown4 := HO3.out.set rfl (by omega) (out.length * 2 + 1) (.int .i64 ((k : Int) + 1))
          have hg4 := ((HG3.out v1 (y.grows.new _) (Nat.le_refl _)).set (p := ⟨g, out.length * 2 + 1, none⟩) hgB (.int .i64 ((k : Int) + 1))).later
          go_roundw
          case measure => simp [intOf]; omega
          case rel =>
            refine ⟨k + 1, by omega, by go_num, by rw [HN2.out], hg4, some ⟨g, 0, none⟩, c3, by rw [HN2.out]; simp, ?_⟩
            rw [HN2.out]
            simp only [List.length_append, List.length_singleton]
            rw [← prCells_set out ((k : Int), (k : Int)), prCells_app]
            exact hown4
        · have ht' : (t0 == -1) = false := by simpa using ht
          have hne : out ≠ [] := by
            rcases HV.out.2 with h | h
            · exact absurd h ht
            · exact h.2.2
          obtain ⟨o, p, rfl⟩ : ∃ o p, out = o ++ [p] := ⟨_, _, (List.dropLast_concat_getLast hne).symm⟩
          have HN2 : Hid (stK (fun z => decide (z ∈ other)) l (k + 1) = (t0, o ++ [(p.1, (k : Int) + 1)])) := by
            rw [show Hid (stK (fun z => decide (z ∈ other)) l (k + 1) = (t0, o ++ [(p.1, (k : Int) + 1)])) = (stK (fun z => decide (z ∈ other)) l (k + 1) = (t0, o ++ [(p.1, (k : Int) + 1)])) from rfl, HN.out, setEnd_app]
            simp only [hin, ht]; rfl
          obtain ⟨g, cur, rfl, hgB, _⟩ := HO.out.at_ (by simp)
          have hcell : y.now.cell? ⟨g, o.length * 2 + 1, none⟩ = some (.int .i64 p.2) := HO.out.cell rfl (prCells_at o p)
          have hfz := HO.out.frozen rfl (by simp) (o.length * 2 + 1)
          have hol : o.length ≤ 1000000 := by have := HV.out.1; simp at this; omega
          have hown4 := hide (HO.out.set rfl (by simp) (o.length * 2 + 1) (.int .i64 ((k : Int) + 1)))
          have hg4 := hide (y.grows.set (p := ⟨g, o.length * 2 + 1, none⟩) hgB (.int .i64 ((k : Int) + 1))).later
          clear hin hne ht
          have hlen : (o ++ [p]).length = o.length + 1 := by simp
          go_wp2_with (at_lookup; refine wp_mapGet rfl _ _ rfl b n' s _ rfl (HM.out.grows y.grows) _ rfl hwk ?_)
          go_roundw
          case measure => simp [intOf]; omega
          case rel =>
            refine ⟨k + 1, by omega, by go_num, by rw [HN2.out], hg4.out, some ⟨g, 0, none⟩, c2, by rw [HN2.out]; simp, ?_⟩
            rw [HN2.out]
            have := hown4.out
            rw [prCells_set o p] at this
            simpa using this

end Go.Proofs.Ytpnncadglhlclaa
