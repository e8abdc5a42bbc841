/- Contracts: where a number first is, and the least one (of slices). -/
import Derived.Test.YtomednfddpggaaaGreatQStatFar16
import Derived.Test.YtomednfddpggaaaGreatQStatFar01
import Derived.Test.YtomednfddpggaaaGreatQStatFar17
import Derived.Test.YtomednfddpggaaaGreatQStatFar08
import Derived.Test.YtomednfddpggaaaGreatQStatFar04
/- Contracts: where a number first is, and the least one (of slices). -/
namespace Go.Proofs.YtomednfddpggaaaGreat
open Go Go.RowKit
attribute [local go_sem] Oper.semAt_some
theorem Rd.nats {w : World} {A : Option Addr} {n : Nat} {xs : List Nat} (h : Rd w A 1 n (nv xs)) (hn : 0 < n) : ∃ b off, A = some ⟨b, off, none⟩ ∧ ∀ j, j < n → Holds w ⟨b, off + j, none⟩ (.int .i64 (gn xs j : Int)) := by
  have hl : xs.length = n := by have := h.len; simpa [nv] using this
  obtain ⟨b, off, rfl, hc⟩ := h.at_ hn
  exact ⟨b, off, rfl, fun j hj => ⟨hc j _ (nv_at (by omega))⟩⟩
set_option maxRecDepth 20000 in
set_option maxHeartbeats 2000000 in
theorem slIndexE (A : Option Addr) (c : Nat) (l : List Nat) (x : Nat) (w : World) (h : Rd w A 1 l.length (nv l)) (hl : l.length ≤ 1000000) (hx : x ∈ l) : Calls Tryz.prog 151 #[.slice A l.length c, .int .i64 (x : Int)] w fun e w' => e = .returned (.int .i64 (ixOf l x : Int)) ∧ w = w' := by
  have hi := ixOf_lt hx
  have hat : gn l (ixOf l x) = x := by have := ixOf_at hx; simp [gn, hi, this]
  have HF := hide (fun j (hj : j < ixOf l x) => ixOf_pre hj)
  generalize ixOf l x = i at *
  obtain ⟨b, off, rfl, hc⟩ := h.nats (by omega)
  have HC := hide hc
  clear h hc hx
  go_enter Tryz.func151, Tryz.ntmps151
  go_wp2_with fail
  go_loopw [8] (fun s wr => ∃ k : Nat, k ≤ i ∧ s = .int .i64 (k : Int) ∧ wr = w) (fun s _ => l.length - (Go.RowKit.intOf s).toNat)
  case atStart => exact ⟨0, by omega, by go_num, rfl⟩
  case round =>
    obtain ⟨k, hk, rfl, rfl⟩ := hrel
    have hkl : k < l.length := by omega
    have ck := HC.out k hkl
    by_cases hlt : k < i
    · have hne := HF.out k hlt
      have b1 : ((x : Int) == (gn l k : Int)) = false := beq_eq_false_iff_ne.2 (by omega)
      clear hat
      generalize gn l k = gk at *
      go_wp2_with fail
      go_roundw
      case measure => simp [Go.RowKit.intOf]; omega
      case rel => exact ⟨k + 1, by omega, by go_num, by first | rfl | trivial⟩
    · obtain rfl : k = i := by omega
      rw [hat] at ck
      clear hat
      go_wp2_with fail
      go_ret
      exact ⟨rfl, by first | rfl | trivial⟩
set_option maxRecDepth 20000 in
set_option maxHeartbeats 2000000 in
theorem slMin (A : Option Addr) (c : Nat) (l : List Nat) (w : World) (h : Rd w A 1 l.length (nv l)) (hl : l.length ≤ 1000000) (hn : 0 < l.length) : Calls Tryz.prog 152 #[.slice A l.length c] w fun e w' => e = .returned (.int .i64 (minT l l.length : Int)) ∧ w = w' := by
  obtain ⟨b, off, rfl, hc⟩ := h.nats hn
  have HC := hide hc
  have h1 : Hid (minT l 1 = gn l 0) := Nat.min_self _
  have c0 := hc 0 hn
  clear h hc
  go_enter Tryz.func152, Tryz.ntmps152
  go_wp2_with fail
  go_loopw [3, 4] (fun m s wr => ∃ k : Nat, 1 ≤ k ∧ k ≤ l.length ∧ s = .int .i64 (k : Int) ∧ m = .int .i64 (minT l k : Int) ∧ wr = w) (fun _ s _ => l.length - (Go.RowKit.intOf s).toNat)
  case atStart => exact ⟨1, by omega, by omega, by go_num, by rw [h1.out], rfl⟩
  case round =>
    obtain ⟨k, hk1, hk, rfl, rfl, rfl⟩ := hrel
    by_cases hlt : k < l.length
    · have ck := HC.out k hlt
      have HS := hide (show minT l (k + 1) = min (minT l k) (gn l k) from rfl)
      generalize minT l k = mk at *
      generalize gn l k = gk at *
      go_wp2_with fail
      go_roundw
      case measure => simp [Go.RowKit.intOf]; omega
      case rel => exact ⟨k + 1, by omega, by omega, by go_num, (by rw [HS.out]; congr 1; omega), by first | rfl | trivial⟩
    · obtain rfl : k = l.length := by omega
      go_wp2_with fail
      go_ret
      exact ⟨rfl, by first | rfl | trivial⟩
end Go.Proofs.YtomednfddpggaaaGreat

/- Tarjan's walk: what is known between two edges of a node. -/
namespace Go.Proofs.YtomednfddpggaaaGreat
open Go Go.RowKit
def st1 (w : World) (i : Nat) (p : Addr) (v : Value) (D : Nat → Bool) : World := if D i = true then w.setCell p v else w
section
variable {w : World} {i : Nat} {p : Addr} {v : Value} {D : Nat → Bool}
theorem st1_no {k : Nat} (h : i ≠ k) : st1 w i p v (fun j => if j = k then true else D j) = st1 w i p v D := by
  unfold st1
  simp only [if_neg h]
theorem st1_do (hD : D i = false) : st1 w i p v (fun j => if j = i then true else D j) = (st1 w i p v D).setCell p v := by
  unfold st1
  simp [hD]
theorem st1_start {n : Nat} (h : i < n) : st1 w i p v (fun j => decide (n ≤ j)) = w := by
  unfold st1
  rw [if_neg (by simp; omega)]
theorem st1_off (hD : D i = false) : st1 w i p v D = w := by unfold st1; rw [hD]; simp
theorem st1_arr {g : Nat} {t : TypeId} {cs : List Value} (h : Arr w g t cs) (h1 : p.block ≠ g) : Arr (st1 w i p v D) g t cs := by
  unfold st1
  split
  · exact h.other h1 _
  · exact h
theorem st1_len {g k : Nat} {t : TypeId} {cs : List Value} (h : Arr w g t cs) (hp : p = ⟨g, k, none⟩) : ∃ cs', Arr (st1 w i p v D) g t cs' ∧ cs'.length = cs.length := by
  subst hp
  unfold st1
  split
  · exact ⟨_, h.set k v, by simp⟩
  · exact ⟨cs, h, rfl⟩
end
structure TjC (b : TjB) (A1 : Option Addr) (W3 : World) (A : Option Addr) (c : Nat) (s : TjS) (M : Nat → Prop) (W : World) : Prop where
  is : TjAt W b A c s
  tch : Touch (TjOwn b A1) W3 W
  ms : ∀ k, M k → W3.heap.size ≤ k ∧ k < W.heap.size ∧ ¬ TjOwn b A k
  own : ∀ k, TjOwn b A k → TjOwn b A1 k ∨ W3.heap.size ≤ k
section
variable {b : TjB} {A1 A : Option Addr} {c : Nat} {s : TjS} {M : Nat → Prop} {W3 W W' : World}
theorem TjC.yield (h : TjC b A1 W3 A c s M W) (ht : Touch M W W') {M' : Nat → Prop} (hM : ∀ k, M' k → (M k ∨ W.heap.size ≤ k) ∧ k < W'.heap.size) : TjC b A1 W3 A c s M' W' := by
  refine ⟨h.is.touch ht fun k hk hm => (h.ms k hm).2.2 hk, h.tch.trans2 ht fun k hk => .inr (h.ms k hk).1, fun k hk => ?_, h.own⟩
  obtain ⟨h1, h2⟩ := hM k hk
  rcases h1 with h1 | h1
  · exact ⟨(h.ms k h1).1, h2, (h.ms k h1).2.2⟩
  · exact ⟨Nat.le_trans h.tch.size h1, h2, fun e => by have := h.is.lts k e; omega⟩
theorem TjC.grow (h : TjC b A1 W3 A c s M W) (hg : Grows W W') : TjC b A1 W3 A c s M W' :=
  ⟨h.is.grow hg, h.tch.grows hg, fun k hk => ⟨(h.ms k hk).1, Nat.lt_of_lt_of_le (h.ms k hk).2.1 hg.size, (h.ms k hk).2.2⟩, h.own⟩
theorem TjC.call (h : TjC b A1 W3 A c s M W) {A' : Option Addr} {c' : Nat} {s' : TjS} (hi : TjAt W' b A' c' s') (ht : Touch (TjOwn b A) W W') (ho : ∀ k, TjOwn b A' k → TjOwn b A k ∨ W.heap.size ≤ k) : TjC b A1 W3 A' c' s' M W' := by
  refine ⟨hi, h.tch.trans2 ht h.own, fun k hk => ?_, fun k hk => ?_⟩
  · obtain ⟨h1, h2, h3⟩ := h.ms k hk
    refine ⟨h1, Nat.lt_of_lt_of_le h2 ht.size, fun e => ?_⟩
    rcases ho k e with h4 | h4
    · exact h3 h4
    · omega
  · rcases ho k hk with h4 | h4
    · exact h.own k h4
    · exact .inr (Nat.le_trans h.tch.size h4)
theorem TjC.lower (h : TjC b A1 W3 A c s M W) (v : Nat) (x : Int) : TjC b A1 W3 A c (s.lower v x) M (W.setCell ⟨b.bl, v, none⟩ (.int .i64 (min (gi s.low v) x))) :=
  h.call (h.is.setLow v _) ((Touch.refl _ W).set (.inl (.inl (.inr (.inr (.inl rfl))))) _) fun k hk => .inl hk
theorem TjC.keeps (h : TjC b A1 W3 A c s M W) {B : Nat → Prop} (hB : ∀ k, B k → k < W3.heap.size ∧ ¬ TjOwn b A1 k) (ht : Touch (TjOwn b A) W W') : Keeps B M W W' :=
  ht.keeps fun k hk e => by
    rcases e with e | e
    · obtain ⟨h1, h2⟩ := hB k e
      rcases h.own k hk with h3 | h3
      · exact h2 h3
      · omega
    · exact (h.ms k e).2.2 hk
theorem TjC.arr (h : TjC b A1 W3 A c s M W) {g : Nat} {t : TypeId} {cs : List Value} (ha : Arr W3 g t cs) (hn : ¬ TjOwn b A1 g) : Arr W g t cs := ha.touch h.tch hn
theorem TjC.start {w : World} (h : TjAt w b A c s) : TjC b A w A c s (fun _ => False) w := ⟨h, Touch.refl _ _, fun _ hk => hk.elim, fun _ hk => .inl hk⟩
end
end Go.Proofs.YtomednfddpggaaaGreat
