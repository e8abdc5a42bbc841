/- Regions that draw their order and whose last operations are forced: the operations ahead of them are walked once, in the order of the text (XGen); then the tail, in its order. -/
import Derived.Test.YtgplpgldhoelcaaQChangeAgain00
import Derived.StillTail
import Derived.Shelf.Bits.Mul64
import Derived.Ground.Names2Prog
import Derived.Shelf.Slices.Clone
import Derived.Ground.SlgnProg
import Derived.Shelf.SlicesE.Clone
import Derived.Test.YtgplpgldhoelcaaProg
import Derived.Test.YtgplpgldhoelcaaQChangeAgain01
import Derived.Deep.DeepCutAuto
import Derived.RangeFuncSeq
import Derived.RangeFuncLeaves
import Derived.RangeFuncRecord
import Derived.RangeFuncCalls
namespace Go.Proofs.Ytgplpgldhoelcaa
open Go Go.RowKit
section
variable {P : Program} {md : Region.Mode} {ops : Array Oper} {w0 : World}
def gAnyT (P : Program) (md : Region.Mode) (ops : Array Oper) (w0 : World) (n : Nat) (L : Array Bool → Act → Env → Prop) : Nat → Array Bool → Act → Env → Prop
  | 0, l, a, G => L l a G
  | f + 1, l, a, G => Region.ready md ops l ≠ [] ∧ ∀ i ∈ Region.ready md ops l, i < n ∧ gOp P ops w0 i (gAnyT P md ops w0 n L f (l.setIfInBounds i true)) a G

theorem gAnyT_first {n i : Nat} {oi : Oper} {r : Out} {L : Array Bool → Act → Env → Prop} (hi : ops[i]? = some oi)
    (hs : Region.sinkB md ops n = true) (hc : Region.chainB md ops n = true) (hn : n < ops.size) (hin : i < n)
    (hdone : ∀ l a G, L l a G → ∀ j ∈ Region.ready md ops l, n ≤ j) :
    ∀ (f : Nat) (l : Array Bool) (a : Act) (G : Env), HeadInv md ops n l →
      (∀ j oj, ops[j]? = some oj → j ≠ i → l.getD j true = false → (∀ e ∈ oj.after, Region.binds md e = true → e.on ≠ i) → oi.apart ops oj = true) →
      i ∈ Region.ready md ops l → Leaves P ops w0 oi a G r →
      gAnyT P md ops w0 n L f (l.setIfInBounds i true) (putA a oi.dst r) (putG G oi.dst r) → gAnyT P md ops w0 n L (f + 1) l a G := by
  intro f
  induction f with
  | zero =>
    intro l a G inv _ hr hy H
    have hun := (mem_ready.1 hr).1
    refine ⟨fun h => (by rw [h] at hr; cases hr), fun j hj => ?_⟩
    have hjn : j < n := by
      rcases Nat.lt_or_ge j n with h | h
      · exact h
      · exact absurd hj (tail_waits hs hc hn inv _ i rfl hin hun j h)
    refine ⟨hjn, ?_⟩
    by_cases hji : j = i
    · subst hji; unfold gOp; simp only [hi]; exact ⟨r, hy, H⟩
    · have := hdone _ _ _ H j (ready_mono hj hji)
      omega
  | succ f ih =>
    intro l a G inv hfree hr hy H
    have hun := (mem_ready.1 hr).1
    refine ⟨fun h => (by rw [h] at hr; cases hr), fun j hj => ?_⟩
    have hjn : j < n := by
      rcases Nat.lt_or_ge j n with h | h
      · exact h
      · exact absurd hj (tail_waits hs hc hn inv _ i rfl hin hun j h)
    refine ⟨hjn, ?_⟩
    by_cases hji : j = i
    · subst hji; unfold gOp; simp only [hi]; exact ⟨r, hy, H⟩
    · have h1 := (H.2 j (ready_mono hj hji)).2
      obtain ⟨hjun, oj, hoj, hall⟩ := mem_ready.1 hj
      have hnot : ∀ e ∈ oj.after, Region.binds md e = true → e.on ≠ i := fun e he hb heq => by
        have h1 := hall e he hb
        rw [heq, getD_both hun] at h1
        cases h1
      have hfree' : ∀ k ok, ops[k]? = some ok → k ≠ i → (l.setIfInBounds j true).getD k true = false →
          (∀ e ∈ ok.after, Region.binds md e = true → e.on ≠ i) → oi.apart ops ok = true := fun k ok hk hki hun hno => by
        refine hfree k ok hk hki ?_ hno
        by_cases hjk : j = k
        · subst hjk; exact hjun
        · rw [getD_set_ne true hjk] at hun; exact hun
      have h2 := gOp_put hoj (hfree j oj hoj hji hjun hnot) hy h1
      refine gOp_mono (fun a' G' h3 => ih (l.setIfInBounds j true) a' G' (inv.set hj hjn) hfree' (ready_mono hr (Ne.symm hji)) h3.1 ?_) h2
      rw [Array.setIfInBounds_comm _ _ hji]
      exact h3.2

theorem gAnyT_lex {n g : Nat} {Lq : Act → Env → Prop} (hs : Region.sinkB md ops n = true) (hc : Region.chainB md ops n = true) (hn : n < ops.size) :
    ∀ (l : List Oper) (k : Nat) (listed : Array Bool) (a : Act) (G : Env), (∀ j, j < l.length → l[j]? = ops[k + j]?) → k + l.length = n → HeadInv md ops n listed →
    Region.lexHead md ops g l.length k listed = true → gLex P ops w0 Lq l a G →
    gAnyT P md ops w0 n (fun listed' a' G' => Region.seqB md ops g n listed' = true ∧ Lq a' G') l.length listed a G
  | [], k, listed, a, G, _, hk, _, hB, h => by
    have : k = n := by simpa using hk
    subst this
    exact ⟨by simpa [Region.lexHead] using hB, h⟩
  | o :: l, k, listed, a, G, hl, hk, inv, hB, h => by
    have h0 : ops[k]? = some o := by simpa using (hl 0 (by simp)).symm
    simp only [List.length_cons, Region.lexHead, Bool.and_eq_true] at hB
    obtain ⟨⟨hr, hf⟩, hB'⟩ := hB
    have hkn : k < n := by simp only [List.length_cons] at hk; omega
    have hr' : k ∈ Region.ready md ops listed := by simpa using hr
    obtain ⟨r, hy, hK⟩ := h
    exact gAnyT_first h0 hs hc hn hkn (fun l' _ _ h j hj => seqB_ready h.1 j hj) l.length listed a G inv (Region.free_spec h0 hf) hr' hy
      (gAnyT_lex hs hc hn l (k + 1) _ _ _ (fun j hj => by have := hl (j + 1) (by simp; omega); simpa [Nat.add_assoc, Nat.add_comm 1 j] using this) (by simp only [List.length_cons] at hk; omega) (inv.set hr' hkn) hB' hK)

theorem wpAny_of_gAnyT {n g : Nat} {L : Array Bool → Act → Env → Prop} {Q : Exit → Act → World → Prop}
    (hL : ∀ listed a G, L listed a G → ∀ w, Grows w0 w → ∀ a', Conc G a a' w → wpAny P md ops Q g listed a' w) :
    ∀ (f : Nat) (l : Array Bool) (a : Act) (G : Env) (a' : Act) (w : World), Grows w0 w → AllLast G → Conc G a a' w →
    gAnyT P md ops w0 n L f l a G → wpAny P md ops Q (f + g) l a' w
  | 0, l, a, G, a', w, hw, _, hc, h => by rw [Nat.zero_add]; exact hL _ _ _ h w hw a' hc
  | f + 1, l, a, G, a', w, hw, hG, hc, h => by
    rw [show f + 1 + g = (f + g) + 1 by omega]
    refine ⟨fun h0 => absurd h0 h.1, fun i hi => ?_⟩
    have h1 := (h.2 i hi).2
    unfold gOp at h1
    unfold wpOp
    split
    · rename_i ho
      simp only [ho] at h1
      exact wpAny_of_gAnyT hL f _ a G a' w hw hG hc h1
    · rename_i o ho
      simp only [ho] at h1
      obtain ⟨r, ⟨hg, hd, hy⟩, hK⟩ := h1
      rw [wanted_conc hg hc]
      rcases hy with ⟨hwant, hl, hf, howe⟩ | ⟨hwant, rfl⟩
      · rw [if_pos hwant]
        refine .inl ?_
        have hrun := howe w hw a' (fun t _ => hc.2 t)
        unfold Oper.wp
        generalize (execOp a'.eval o).run P w = res at hrun
        cases res with
        | halt x w' => simp only [runsTo] at hrun
        | ok x w' =>
          cases x <;> simp only [runsTo] at hrun <;> simp only [Oper.upon]
          case value u => exact wpAny_of_gAnyT hL f _ _ _ _ _ (hw.trans hrun.1) (hG.putG hl) (hc.step hG hrun.1 hd hf hrun.2) hK
          case skip => exact wpAny_of_gAnyT hL f _ _ _ _ _ (hw.trans hrun.1) (hG.putG hl) (hc.step hG hrun.1 hd hf hrun.2) hK
          case enter f args =>
            refine hrun.mono fun e w'' ⟨u, he, h1, h2⟩ => ?_
            subst he
            exact wpAny_of_gAnyT hL _ _ _ _ _ _ (hw.trans h1) (hG.putG hl) (hc.step hG h1 hd hf h2) hK
      · rw [hwant]
        simp only [Bool.false_eq_true, if_false]
        have hG0 : putG G o.dst (.inl undef) = G := by cases o.dst <;> rfl
        rw [hG0] at hK
        have hc0 := hc.step hG (Grows.refl w) hd (r := .inl undef) (u := undef) trivial rfl
        rw [hG0] at hc0
        exact wpAny_of_gAnyT hL f _ _ _ _ _ hw hG hc0 hK

def tailB (md : Region.Mode) (ops : Array Oper) (n : Nat) : Bool :=
  decide (n < ops.size) && Region.sinkB md ops n && Region.chainB md ops n && Region.lexHead md ops (ops.size - n) n 0 (Array.replicate ops.size false)

theorem wp_region_tail {w0 : World} {id : Nat} {Q : Exit → Act → World → Prop} {a : Act} {w : World} {l : List Oper} (n : Nat) (hm : P.follows .mixedOrders = true) (hB : tailB .any l.toArray n = true)
    (hw0 : Grows w0 w) (h : gLex P l.toArray w0 (fun a G => ∀ w', Grows w0 w' → ∀ a', Conc G a a' w' → wpList P l.toArray Q (l.drop n) a' w') (l.take n) a Env.no) : (Code.region id l.toArray true).wp P Q a w := by
  simp only [tailB, Bool.and_eq_true, decide_eq_true_eq] at hB
  obtain ⟨⟨⟨hn, hs⟩, hc⟩, hx⟩ := hB
  have hlen : l.length = n + (l.drop n).length := by simp at hn ⊢; omega
  have hn' : n < l.length := by simpa using hn
  refine wp_region_any hm ?_
  have inv : HeadInv .any l.toArray n (Array.replicate l.length false) := by
    refine ⟨by simp, ?_, ?_⟩
    · intro j oj hj hl
      rw [getD_replicate_false] at hl
      cases hl
    · intro t h1 h2
      have : t < l.length := by simpa using h2
      simp [this]
  have e1 : (l.take n).length = n := by simp; omega
  have e2 : (l.drop n).length = l.length - n := by simp
  have hx' : Region.lexHead .any l.toArray (l.length - n) (l.take n).length 0 (Array.replicate l.length false) = true := by rw [e1]; simpa using hx
  have hg := gAnyT_lex (P := P) (w0 := w0) (g := l.length - n) hs hc hn (l.take n) 0 (Array.replicate l.length false) a Env.no (fun j hj => by
      have : j < n := by rw [e1] at hj; exact hj
      simp [this]) (by rw [e1]; omega) inv hx' h
  have hall := wpAny_of_gAnyT (Q := Q) (g := l.length - n) (fun listed a' G' hL w' hw' a'' hc' => by
    have hh := hL.2 w' hw' a'' hc'
    have := wpAny_of_seq (P := P) (md := .any) (ops := l.toArray) (l.drop n) n listed a'' w' (fun j => by simp) (by rw [e2]; exact hL.1) hh
    rwa [e2] at this) (l.take n).length _ a Env.no a { w with drawn := w.drawn + 1 } (hw0.trans (Grows.drawn w _)) (fun t p h => by cases h) ⟨rfl, fun t => rfl⟩ hg
  have e3 : (l.take n).length + (l.length - n) = l.length := by rw [e1]; omega
  rw [e3] at hall
  simpa using hall
theorem wp_region_tail1 {id : Nat} {Q : Exit → Act → World → Prop} {a : Act} {w : World} {l : List Oper} (n : Nat) (hm : P.follows .mixedOrders = true) (hB : tailB .any l.toArray n = true)
    (h : gLex P l.toArray w (fun a G => ∀ w', Grows w w' → ∀ a', Conc G a a' w' → wpList P l.toArray Q (l.drop n) a' w') (l.take n) a Env.no) : (Code.region id l.toArray true).wp P Q a w :=
  wp_region_tail n hm hB (Grows.refl w) h
theorem gLex_endT {ops : Array Oper} {Q : Exit → Act → World → Prop} {tail : List Oper} {a : Act} (h : ∀ x : Later w0, wpList P ops Q tail a x.now) :
    gLex P ops w0 (fun a G => ∀ w', Grows w0 w' → ∀ a', Conc G a a' w' → wpList P ops Q tail a' w') [] a Env.no :=
  fun w' hw a' hc => by rw [conc_no hc]; exact h ⟨w', hw⟩
theorem gLex_endT1 {ops : Array Oper} {Q : Exit → Act → World → Prop} {tail : List Oper} {a : Act} {t : Tmp} {p : Pr} (hlt : t < a.tmps.size) (h : ∀ (x : Later w0) v, p v x.now → wpList P ops Q tail (a.put (some t) v) x.now) :
    gLex P ops w0 (fun a G => ∀ w', Grows w0 w' → ∀ a', Conc G a a' w' → wpList P ops Q tail a' w') [] a (Env.no.upd t p) :=
  fun w' hw a' hc => by
    obtain ⟨v, hv⟩ := conc_upd hc hlt
    rcases hv with ⟨hp, hc2⟩ | hne
    · rw [conc_no hc2]
      exact h ⟨w', hw⟩ v hp
    · exact absurd rfl hne
theorem gLex_prop {ops : Array Oper} {Q : Act → Env → Prop} {a : Act} {G : Env} {o : Oper} {rest : List Oper} {t : Tmp} (hg : o.guard = none) (hp : plainB ops o G = true) (hd : o.dst = some t) (hlt : t < a.tmps.size)
    (p : Pr) (hl : Lasts p) (hr : ∀ x : Later w0, runsTo P (fun u w' => Grows x.now w' ∧ p u w') ((execOp a.eval o).run P x.now))
    (h : gLex P ops w0 Q rest a (G.upd t p)) : gLex P ops w0 Q (o :: rest) a G := by
  obtain ⟨h1, h2, h3, h4⟩ := plain_spec hp
  refine ⟨.inr p, ⟨h1, h2, .inl ⟨by unfold Region.wanted; rw [hg], hl, ⟨t, hd, hlt⟩, fun w hw a' ha' => ?_⟩⟩, ?_⟩
  · rw [exec_same h4 h3 ha']
    exact hr ⟨w, hw⟩
  · rw [hd]
    exact h
def One (v : Value) : Pr := fun u w => ∃ g, u = .slice (some ⟨g, 0, none⟩) 1 1 ∧ Holds w ⟨g, 0, none⟩ v
theorem One.lasts (v : Value) : Lasts (One v) := fun _ _ _ hg ⟨g, e, h⟩ => ⟨g, e, ⟨hg.keeps h.cell⟩⟩
end
end Go.Proofs.Ytgplpgldhoelcaa

namespace Go.Proofs
open Go.Shelf
def Try.lays264_ren : Go.Shelf.Ren := ⟨fun | 264 => 156 | n => n, fun | 53 => 38 | 46 => 206 | n => n, fun | n => n⟩
theorem Try.lays264 : Go.Proofs.Lays.n264 Try.prog Try.lays264_ren := {
  mixed := by kernel_rfl
  f264 := Try.func156.trans (congrArg some (by kernel_rfl))
  t46 := Try.underlying206
  a46 := Try.isAgg206
  z46 := Try.sizeOf206
  v46 := Try.zeroValue206
  t53 := Try.underlying38
  a53 := Try.isAgg38
  z53 := Try.sizeOf38
  v53 := Try.zeroValue38 }
open Go.RowKit Go.Lib in
theorem Try.bits_Mul64 (x y : Nat) (hx : x < 18446744073709551616) (hy : y < 18446744073709551616) (w : World) :
    Calls Try.prog 156 #[.int .u64 x, .int .u64 y] w fun e w' => e = .returned (.tuple #[.int .u64 ((x * y / 18446744073709551616 : Nat) : Int), .int .u64 ((x * y % 18446744073709551616 : Nat) : Int)]) ∧ w' = w := Any.bits_Mul64 Try.lays264 x y hx hy w
def Try.lays212_ren : Go.Shelf.Ren := ⟨fun | 212 => 135 | 263 => 155 | 264 => 156 | n => n, fun | 46 => 206 | 51 => 236 | 146 => 237 | 53 => 38 | 148 => 239 | n => n, fun | n => n⟩
theorem Try.lays212 : Go.Proofs.Lays.n212 Try.prog Try.lays212_ren := {
  mixed := by kernel_rfl
  f212 := Try.func135.trans (congrArg some (by kernel_rfl))
  f263 := Try.func155.trans (congrArg some (by kernel_rfl))
  f264 := Try.func156.trans (congrArg some (by kernel_rfl))
  t46 := Try.underlying206
  a46 := Try.isAgg206
  z46 := Try.sizeOf206
  v46 := Try.zeroValue206
  t51 := Try.underlying236
  a51 := Try.isAgg236
  z51 := Try.sizeOf236
  v51 := Try.zeroValue236
  t53 := Try.underlying38
  a53 := Try.isAgg38
  z53 := Try.sizeOf38
  v53 := Try.zeroValue38
  t146 := Try.underlying237
  a146 := Try.isAgg237
  z146 := Try.sizeOf237
  v146 := Try.zeroValue237
  t148 := Try.underlying239
  a148 := Try.isAgg239
  z148 := Try.sizeOf239
  v148 := Try.zeroValue239 }
open Go.RowKit Go.Lib in
theorem Try.bits_Mul (x y : Nat) (hx : x < 18446744073709551616) (hy : y < 18446744073709551616) (w : World) :
    Calls Try.prog 135 #[.int .u64 x, .int .u64 y] w fun e w' => e = .returned (.tuple #[.int .u64 ((x * y / 18446744073709551616 : Nat) : Int), .int .u64 ((x * y % 18446744073709551616 : Nat) : Int)]) ∧ w' = w := Any.bits_Mul Try.lays212 x y hx hy w
def Try.laysNm215_ren : Go.Shelf.Ren := ⟨fun | 15 => 61 | n => n, fun | 22 => 29 | 3 => 3 | 4 => 4 | n => n, fun | n => n⟩
theorem Try.laysNm215 : Go.Proofs.Lays2.n15 Try.prog Try.laysNm215_ren := {
  mixed := by kernel_rfl
  f15 := Try.func61.trans (congrArg some (by kernel_rfl))
  t3 := Try.underlying3
  a3 := Try.isAgg3
  z3 := Try.sizeOf3
  v3 := Try.zeroValue3
  t4 := Try.underlying4
  a4 := Try.isAgg4
  z4 := Try.sizeOf4
  v4 := Try.zeroValue4
  t22 := Try.underlying29
  a22 := Try.isAgg29
  z22 := Try.sizeOf29
  v22 := Try.zeroValue29
  i3 := by kernel_rfl }
open Go.RowKit Go.Lib in
theorem Try.slices_Clone_int (b off n c : Nat) (zs : List Int) (w : World) (hz : n ≤ zs.length) (hbig : n * 8 ≤ 140737488355328) (hc : ∀ j, j < zs.length → w.cell? ⟨b, off + j, none⟩ = some (.int .i64 (zs.getD j 0))) :
    Calls Try.prog 61 #[.slice (some ⟨b, off, none⟩) n c] w fun e w' => ∃ v', e = .returned v' ∧ w'.ownsRow w.heap.size 3 1 v' n ((zs.take n).map (Value.int .i64)) ∧ v' ≠ .slice none 0 0 ∧ Below w.heap.size w w' := Any.slices_Clone_int Try.laysNm215 b off n c zs w hz hbig hc
open Go.RowKit Go.Lib in
theorem Try.slices_Clone_int_nil (n c : Nat) (w : World) :
    Calls Try.prog 61 #[.slice none n c] w fun e w' => e = .returned (.slice none 0 0) ∧ w' = w := Any.slices_Clone_int_nil Try.laysNm215 n c w
open Go.RowKit Go.Lib in
theorem Try.slices_Clone_int_zero (a : Addr) (c : Nat) (w : World) :
    Calls Try.prog 61 #[.slice (some a) 0 c] w fun e w' => ∃ v', e = .returned v' ∧ w'.ownsRow w.heap.size 3 1 v' 0 [] ∧ v' ≠ .slice none 0 0 ∧ Below w.heap.size w w' := Any.slices_Clone_int_zero Try.laysNm215 a c w
def Try.laysSlE041_f61_ren : Go.Shelf.Ren := ⟨fun | 41 => 61 | n => n, fun | 22 => 29 | 23 => 3 | 4 => 4 | n => n, fun | n => n⟩
theorem Try.laysSlE041_f61 : Go.Proofs.SlLaysE0.n41 Try.prog Try.laysSlE041_f61_ren := {
  mixed := by kernel_rfl
  f41 := ⟨Try.f61.name, by decide, Try.func61.trans (congrArg some (by kernel_rfl))⟩
  t4 := Try.underlying4
  a4 := Try.isAgg4
  z4 := Try.sizeOf4
  v4 := Try.zeroValue4
  t22 := Try.underlying29
  a22 := Try.isAgg29
  z22 := Try.sizeOf29
  v22 := Try.zeroValue29 }
open Go.RowKit Go.Lib in
theorem Try.slices_Clone_f61 (i0 : TypeInfo) (z : Value) (size bytes : Nat) (hi : Try.prog.info? 3 = some i0) (hz0 : i0.zero = some z) (hz1 : i0.size = size) (hz2 : i0.bytes = bytes) (hzs : z.cells.size = size) (hsz : 0 < size) (z23 : ∀ w, (Go.sizeOf 3).run Try.prog w = .ok size w) (b off n c : Nat) (news : List Value) (w : World) (hl : news.length = n * size) (hn : n ≤ maxLen) (hbig : n * bytes ≤ 140737488355328) (hc : ∀ j u, news[j]? = some u → w.cell? ⟨b, off + j, none⟩ = some u) (h1 : ∀ u ∈ news, u.oneCell' = true) :
    Calls Try.prog 61 #[.slice (some ⟨b, off, none⟩) n c] w fun e w' => ∃ v', e = .returned v' ∧ w'.ownsRow w.heap.size 3 size v' n news ∧ v' ≠ .slice none 0 0 ∧ Below w.heap.size w w' := AnyE.slices_Clone Try.laysSlE041_f61 i0 z size bytes hi hz0 hz1 hz2 hzs hsz z23 b off n c news w hl hn hbig hc h1
def Try.laysSlE041_f77_ren : Go.Shelf.Ren := ⟨fun | 41 => 77 | n => n, fun | 22 => 23 | 23 => 4 | 4 => 4 | n => n, fun | n => n⟩
theorem Try.laysSlE041_f77 : Go.Proofs.SlLaysE0.n41 Try.prog Try.laysSlE041_f77_ren := {
  mixed := by kernel_rfl
  f41 := ⟨Try.f77.name, by decide, Try.func77.trans (congrArg some (by kernel_rfl))⟩
  t4 := Try.underlying4
  a4 := Try.isAgg4
  z4 := Try.sizeOf4
  v4 := Try.zeroValue4
  t22 := Try.underlying23
  a22 := Try.isAgg23
  z22 := Try.sizeOf23
  v22 := Try.zeroValue23 }
open Go.RowKit Go.Lib in
theorem Try.slices_Clone_f77 (i0 : TypeInfo) (z : Value) (size bytes : Nat) (hi : Try.prog.info? 4 = some i0) (hz0 : i0.zero = some z) (hz1 : i0.size = size) (hz2 : i0.bytes = bytes) (hzs : z.cells.size = size) (hsz : 0 < size) (z23 : ∀ w, (Go.sizeOf 4).run Try.prog w = .ok size w) (b off n c : Nat) (news : List Value) (w : World) (hl : news.length = n * size) (hn : n ≤ maxLen) (hbig : n * bytes ≤ 140737488355328) (hc : ∀ j u, news[j]? = some u → w.cell? ⟨b, off + j, none⟩ = some u) (h1 : ∀ u ∈ news, u.oneCell' = true) :
    Calls Try.prog 77 #[.slice (some ⟨b, off, none⟩) n c] w fun e w' => ∃ v', e = .returned v' ∧ w'.ownsRow w.heap.size 4 size v' n news ∧ v' ≠ .slice none 0 0 ∧ Below w.heap.size w w' := AnyE.slices_Clone Try.laysSlE041_f77 i0 z size bytes hi hz0 hz1 hz2 hzs hsz z23 b off n c news w hl hn hbig hc h1
def Try.laysSlE041_f104_ren : Go.Shelf.Ren := ⟨fun | 41 => 104 | n => n, fun | 22 => 76 | 23 => 38 | 4 => 4 | n => n, fun | n => n⟩
theorem Try.laysSlE041_f104 : Go.Proofs.SlLaysE0.n41 Try.prog Try.laysSlE041_f104_ren := {
  mixed := by kernel_rfl
  f41 := ⟨Try.f104.name, by decide, Try.func104.trans (congrArg some (by kernel_rfl))⟩
  t4 := Try.underlying4
  a4 := Try.isAgg4
  z4 := Try.sizeOf4
  v4 := Try.zeroValue4
  t22 := Try.underlying76
  a22 := Try.isAgg76
  z22 := Try.sizeOf76
  v22 := Try.zeroValue76 }
open Go.RowKit Go.Lib in
theorem Try.slices_Clone_f104 (i0 : TypeInfo) (z : Value) (size bytes : Nat) (hi : Try.prog.info? 38 = some i0) (hz0 : i0.zero = some z) (hz1 : i0.size = size) (hz2 : i0.bytes = bytes) (hzs : z.cells.size = size) (hsz : 0 < size) (z23 : ∀ w, (Go.sizeOf 38).run Try.prog w = .ok size w) (b off n c : Nat) (news : List Value) (w : World) (hl : news.length = n * size) (hn : n ≤ maxLen) (hbig : n * bytes ≤ 140737488355328) (hc : ∀ j u, news[j]? = some u → w.cell? ⟨b, off + j, none⟩ = some u) (h1 : ∀ u ∈ news, u.oneCell' = true) :
    Calls Try.prog 104 #[.slice (some ⟨b, off, none⟩) n c] w fun e w' => ∃ v', e = .returned v' ∧ w'.ownsRow w.heap.size 38 size v' n news ∧ v' ≠ .slice none 0 0 ∧ Below w.heap.size w w' := AnyE.slices_Clone Try.laysSlE041_f104 i0 z size bytes hi hz0 hz1 hz2 hzs hsz z23 b off n c news w hl hn hbig hc h1
open Go.RowKit Go.Lib in
theorem Try.slices_Clone_nil_f61 (n c : Nat) (w : World) :
    Calls Try.prog 61 #[.slice none n c] w fun e w' => e = .returned (.slice none 0 0) ∧ w' = w := AnyE.slices_Clone_nil Try.laysSlE041_f61 n c w
open Go.RowKit Go.Lib in
theorem Try.slices_Clone_nil_f77 (n c : Nat) (w : World) :
    Calls Try.prog 77 #[.slice none n c] w fun e w' => e = .returned (.slice none 0 0) ∧ w' = w := AnyE.slices_Clone_nil Try.laysSlE041_f77 n c w
open Go.RowKit Go.Lib in
theorem Try.slices_Clone_nil_f104 (n c : Nat) (w : World) :
    Calls Try.prog 104 #[.slice none n c] w fun e w' => e = .returned (.slice none 0 0) ∧ w' = w := AnyE.slices_Clone_nil Try.laysSlE041_f104 n c w
end Go.Proofs

namespace Go.Proofs.Ytgplpgldhoelcaa
open Go Go.RowKit
def nv (l : List Nat) : List Value := l.map fun (i : Nat) => Value.int .i64 (i : Int)
theorem nv_len (l : List Nat) : (nv l).length = l.length := by simp [nv]
theorem nv_set (l : List Nat) (j v : Nat) : (nv l).set j (.int .i64 (v : Int)) = nv (l.set j v) := by simp [nv, List.map_set]
def gn (l : List Nat) (k : Nat) : Nat := l.getD k 0
theorem nv_at {l : List Nat} {j : Nat} (h : j < l.length) : (nv l)[j]? = some (.int .i64 (gn l j : Int)) := by simp [nv, gn, h]
theorem gn_set (l : List Nat) (j k v : Nat) (hj : j < l.length) : gn (l.set j v) k = if k = j then v else gn l k := by
  unfold gn
  by_cases h : k = j
  · subst h; simp [hj]
  · simp [h, Ne.symm h]
theorem Row1.nlen {w : World} {g n c : Nat} {e : TypeId} {l : List Nat} (h : Row1 w g e 1 n c (nv l)) : l.length = n := by
  have hl := h.len
  rw [nv_len] at hl
  omega
theorem heap_drew (w : World) : w.drew.heap = w.heap := rfl
theorem heap_push (w : World) (o : Obj) : (w.alloc o).heap = w.heap.push o := rfl
def LaidL1 (w : World) (N n : Nat) (f : Nat → Nat) (b7 g1 g2 j : Nat) (wr : World) : Prop :=
  ∃ y : Later w, wr = y.now ∧ Arr y.now b7 167 [.slice (some ⟨g1, 0, none⟩) n n, .slice (some ⟨g2, 0, none⟩) (N + 1) (N + 1)] ∧ Row1 y.now g1 3 1 n n (nv (List.replicate n 0)) ∧
    ∃ B, Row1 y.now g2 3 1 (N + 1) (N + 1) (nv B) ∧ ∀ v, v ≤ N → gn B v = if v = 0 then 0 else cntN f (v - 1) j
theorem LaidL1.step {w : World} {N n j : Nat} {f : Nat → Nat} {b7 g1 g2 : Nat} {B : List Nat} (y : Later w) {W : World} (hg : Grows y.now W) (ha : Arr y.now b7 167 [.slice (some ⟨g1, 0, none⟩) n n, .slice (some ⟨g2, 0, none⟩) (N + 1) (N + 1)])
    (hr1 : Row1 y.now g1 3 1 n n (nv (List.replicate n 0))) (hr2 : Row1 y.now g2 3 1 (N + 1) (N + 1) (nv B)) (hl2 : w.heap.size ≤ g2) (hne : g1 ≠ g2) (hj : f j < N) (hB : ∀ v, v ≤ N → gn B v = if v = 0 then 0 else cntN f (v - 1) j) :
    LaidL1 w N n f b7 g1 g2 (j + 1) (W.setCell ⟨g2, f j + 1, none⟩ (.int .i64 ((gn B (f j + 1) : Int) + 1))) := by
  have hlen := hr2.nlen
  refine ⟨⟨_, (y.grows.trans hg).set hl2 _⟩, rfl, (ha.grow hg).other (hr2.ne ha (by decide)) _, (hr1.grow hg).other (Ne.symm hne) _, B.set (f j + 1) (gn B (f j + 1) + 1), ?_, fun v hv => ?_⟩
  · rw [← nv_set, Int.natCast_add, Int.natCast_one]
    exact (hr2.grow hg).set _ _
  · rw [gn_set _ _ _ _ (by omega), hB v hv, hB (f j + 1) (by omega), if_neg (by omega : ¬ f j + 1 = 0), cntN_succ]
    by_cases h0 : v = 0
    · subst h0; simp
    · rw [if_neg h0, if_neg h0]
      by_cases h1 : v = f j + 1
      · subst h1; simp
      · rw [if_neg h1, if_neg (by omega)]; omega
def LaidL2 (w : World) (N n : Nat) (f : Nat → Nat) (b7 g1 g2 v : Nat) (wr : World) : Prop :=
  ∃ y : Later w, wr = y.now ∧ Arr y.now b7 167 [.slice (some ⟨g1, 0, none⟩) n n, .slice (some ⟨g2, 0, none⟩) (N + 1) (N + 1)] ∧ Row1 y.now g1 3 1 n n (nv (List.replicate n 0)) ∧
    ∃ B, Row1 y.now g2 3 1 (N + 1) (N + 1) (nv B) ∧ ∀ u, u ≤ N → gn B u = if u ≤ v then begN f n u else cntN f (u - 1) n
theorem LaidL2.step {w : World} {N n v : Nat} {f : Nat → Nat} {b7 g1 g2 : Nat} {B : List Nat} (y : Later w) {W : World} (hg : Grows y.now W) (ha : Arr y.now b7 167 [.slice (some ⟨g1, 0, none⟩) n n, .slice (some ⟨g2, 0, none⟩) (N + 1) (N + 1)])
    (hr1 : Row1 y.now g1 3 1 n n (nv (List.replicate n 0))) (hr2 : Row1 y.now g2 3 1 (N + 1) (N + 1) (nv B)) (hl2 : w.heap.size ≤ g2) (hne : g1 ≠ g2) (hv : v < N) (hB : ∀ u, u ≤ N → gn B u = if u ≤ v then begN f n u else cntN f (u - 1) n) :
    LaidL2 w N n f b7 g1 g2 (v + 1) (W.setCell ⟨g2, v + 1, none⟩ (.int .i64 ((gn B (v + 1) : Int) + (gn B v : Int)))) := by
  have hlen := hr2.nlen
  refine ⟨⟨_, (y.grows.trans hg).set hl2 _⟩, rfl, (ha.grow hg).other (hr2.ne ha (by decide)) _, (hr1.grow hg).other (Ne.symm hne) _, B.set (v + 1) (gn B (v + 1) + gn B v), ?_, fun u hu => ?_⟩
  · rw [← nv_set, Int.natCast_add]
    exact (hr2.grow hg).set _ _
  · rw [gn_set _ _ _ _ (by omega), hB u hu, hB (v + 1) (by omega), hB v (by omega), if_neg (by omega : ¬ v + 1 ≤ v), if_pos (Nat.le_refl v)]
    by_cases h1 : u = v + 1
    · subst h1
      rw [if_pos rfl, if_pos (Nat.le_refl _), begN_succ, Nat.add_sub_cancel]; omega
    · rw [if_neg h1]
      by_cases h2 : u ≤ v
      · rw [if_pos h2, if_pos (by omega)]
      · rw [if_neg h2, if_neg (by omega)]
theorem cloneN (A : Option Addr) (n c : Nat) (B : List Nat) (w : World) (h : Rd w A 1 n (nv B)) (h0 : 0 < n) (hn : n ≤ 1000000) :
    Calls Try.prog 61 #[.slice A n c] w fun e w' => ∃ g c', e = .returned (.slice (some ⟨g, 0, none⟩) n c') ∧ Row1 w' g 3 1 n c' (nv B) ∧ w.heap.size ≤ g ∧ Grows w w' := by
  have hl : B.length = n := by have := h.len; rwa [nv_len] at this
  obtain ⟨b, off, rfl, hc⟩ := h.at_ h0
  have hm : nv B = (B.map Int.ofNat).map (Value.int .i64) := by simp [nv]
  refine (Try.slices_Clone_int b off n c (B.map Int.ofNat) w (by simp; omega) (by omega) (fun j hj => hc j _ (by
    rw [hm, List.getElem?_map, List.getElem?_eq_getElem hj]
    simp [List.getD_eq_getElem?_getD, List.getElem?_eq_getElem hj]))).mono ?_
  rintro e w' ⟨v', rfl, ho, hv, hg⟩
  obtain ⟨A', c', rfl⟩ := own_form ho
  rw [List.take_of_length_le (by simp; omega), ← hm] at ho
  obtain ⟨g, hA, hB⟩ : ∃ g, A' = some ⟨g, 0, none⟩ ∧ w.heap.size ≤ g := by
    obtain ⟨g, cur, h1, h2, _⟩ := Own.at_ (A := A') (c := c') ho h0
    exact ⟨g, h1, h2⟩
  subst hA
  exact ⟨g, c', rfl, (Own.row ho).1, hB, hg⟩
def LaidL3 (w : World) (N n : Nat) (f : Nat → Nat) (b7 g1 g2 g3 c3 : Nat) (B : List Nat) (j : Nat) (wr : World) : Prop :=
  ∃ y : Later w, wr = y.now ∧ Arr y.now b7 167 [.slice (some ⟨g1, 0, none⟩) n n, .slice (some ⟨g2, 0, none⟩) (N + 1) (N + 1)] ∧ Row1 y.now g2 3 1 (N + 1) (N + 1) (nv B) ∧
    ∃ X T, Row1 y.now g1 3 1 n n (nv X) ∧ Row1 y.now g3 3 1 (N + 1) c3 (nv T) ∧ (∀ i, i < j → X[posN f n i]? = some i) ∧ ∀ v, v < N → gn T v = begN f n v + cntN f v j
theorem LaidL3.step {w : World} {N n j : Nat} {f : Nat → Nat} {b7 g1 g2 g3 c3 : Nat} {B X T : List Nat} (y : Later w) {W : World} (hg : Grows y.now W) (ha : Arr y.now b7 167 [.slice (some ⟨g1, 0, none⟩) n n, .slice (some ⟨g2, 0, none⟩) (N + 1) (N + 1)])
    (hr2 : Row1 y.now g2 3 1 (N + 1) (N + 1) (nv B)) (hr1 : Row1 y.now g1 3 1 n n (nv X)) (hr3 : Row1 y.now g3 3 1 (N + 1) c3 (nv T)) (hl1 : w.heap.size ≤ g1) (hl3 : w.heap.size ≤ g3) (h12 : g1 ≠ g2) (h13 : g1 ≠ g3) (h23 : g2 ≠ g3) (hj : f j < N) (hjn : j < n)
    (hX : ∀ i, i < j → X[posN f n i]? = some i) (hT : ∀ v, v < N → gn T v = begN f n v + cntN f v j) :
    LaidL3 w N n f b7 g1 g2 g3 c3 B (j + 1) ((W.setCell ⟨g1, gn T (f j), none⟩ (.int .i64 (j : Int))).setCell ⟨g3, f j, none⟩ (.int .i64 ((gn T (f j) : Int) + 1))) := by
  have hlen := hr3.nlen
  have hlen1 := hr1.nlen
  have hp : gn T (f j) = posN f n j := hT _ hj
  refine ⟨⟨_, ((y.grows.trans hg).set hl1 _).set hl3 _⟩, rfl, ((ha.grow hg).other (hr1.ne ha (by decide)) _).other (hr3.ne ha (by decide)) _, ((hr2.grow hg).other h12 _).other (Ne.symm h23) _,
    X.set (gn T (f j)) j, T.set (f j) (gn T (f j) + 1), ?_, ?_, fun i hi => ?_, fun v hv => ?_⟩
  · rw [← nv_set]
    exact ((hr1.grow hg).set _ _).other (Ne.symm h13) _
  · rw [← nv_set, Int.natCast_add, Int.natCast_one]
    exact ((hr3.grow hg).other h13 _).set _ _
  · rw [hp]
    by_cases h1 : i = j
    · subst h1
      rw [List.getElem?_set_self (by rw [hlen1]; exact posN_m f n i hjn)]
    · rw [List.getElem?_set_ne (Ne.symm (posN_ne f n (by omega) hjn)), hX i (by omega)]
  · rw [gn_set _ _ _ _ (by omega), cntN_succ, hT v hv]
    by_cases h1 : v = f j
    · subst h1; simp [hp, posN]; omega
    · rw [if_neg h1, if_neg (fun e => h1 e.symm)]; omega
end Go.Proofs.Ytgplpgldhoelcaa

namespace Go.Proofs.Ytgplpgldhoelcaa
open Go Go.RowKit
def scCells (p : Nat × Nat) : List Value := [.int .u64 (p.1 : Int), .int .u64 (p.2 : Int)]
def scs (L : List (Nat × Nat)) : List Value := L.flatMap scCells
def gp (L : List (Nat × Nat)) (i : Nat) : Nat × Nat := L.getD i (0, 0)
theorem scs_len (L : List (Nat × Nat)) : (scs L).length = L.length * 2 := flat_len scCells 2 (fun _ => rfl) L
theorem scs_at (L : List (Nat × Nat)) (i j : Nat) (hi : i < L.length) (hj : j < 2) : (scs L)[i * 2 + j]? = (scCells (gp L i))[j]? := flat_get scCells 2 (fun _ => rfl) (0, 0) L i j hi hj
theorem gp_set (L : List (Nat × Nat)) (i j : Nat) (p : Nat × Nat) (hi : i < L.length) : gp (L.set i p) j = if j = i then p else gp L j := by
  unfold gp
  by_cases h : j = i
  · subst h; simp [hi]
  · simp [h, Ne.symm h]
theorem scs_set (L : List (Nat × Nat)) (i : Nat) (p : Nat × Nat) (hi : i < L.length) : ((scs L).set (i * 2) (.int .u64 (p.1 : Int))).set (i * 2 + 1) (.int .u64 (p.2 : Int)) = scs (L.set i p) := by
  apply List.ext_getElem?
  intro k
  have hk : k = k / 2 * 2 + k % 2 := (Nat.div_add_mod' k 2).symm
  have hm : k % 2 < 2 := Nat.mod_lt _ (by omega)
  have hl := scs_len L
  have hl2 := scs_len (L.set i p)
  rw [List.length_set] at hl2
  rcases Nat.lt_or_ge (k / 2) L.length with hlt | hge
  · have h1 := scs_at L (k / 2) (k % 2) hlt hm
    have h2 := scs_at (L.set i p) (k / 2) (k % 2) (by simpa using hlt) hm
    rw [← hk] at h1 h2
    rw [h2, gp_set _ _ _ _ hi]
    by_cases he : k / 2 = i
    · rw [if_pos he]
      rcases (by omega : k = i * 2 ∨ k = i * 2 + 1) with e | e
      · have e2 : k % 2 = 0 := by omega
        rw [List.getElem?_set_ne (by omega), e, List.getElem?_set_self (by omega)]
        rw [e] at e2
        rw [e2]; rfl
      · have e2 : k % 2 = 1 := by omega
        rw [e, List.getElem?_set_self (by simp; omega)]
        rw [e] at e2
        rw [e2]; rfl
    · rw [if_neg he, List.getElem?_set_ne (by omega), List.getElem?_set_ne (by omega), h1]
  · rw [List.getElem?_eq_none (by simp; omega), List.getElem?_eq_none (by omega)]
structure StL (w : World) (b g : Nat) (L : List (Nat × Nat)) (m : Int) : Prop where
  row : Arr w b 230 [.slice (some ⟨g, 0, none⟩) L.length L.length, .int .u64 1, .int .i64 m]
  cells : Row1 w g 234 2 L.length L.length (scs L)
theorem StL.c0 {w : World} {b g : Nat} {L : List (Nat × Nat)} {m : Int} (h : StL w b g L m) {i : Nat} (hi : i < L.length) : Mine w ⟨g, i * 2, none⟩ (.int .u64 ((gp L i).1 : Int)) :=
  h.cells.mine (by have := scs_at L i 0 hi (by omega); rw [Nat.add_zero] at this; rw [this]; rfl)
theorem StL.c1 {w : World} {b g : Nat} {L : List (Nat × Nat)} {m : Int} (h : StL w b g L m) {i : Nat} (hi : i < L.length) : Mine w ⟨g, i * 2 + 1, none⟩ (.int .u64 ((gp L i).2 : Int)) :=
  h.cells.mine (by rw [scs_at L i 1 hi (by omega)]; rfl)
theorem StL.ne {w : World} {b g : Nat} {L : List (Nat × Nat)} {m : Int} (h : StL w b g L m) : g ≠ b := h.cells.ne h.row (by decide)
theorem StL.touch {w w' : World} {b g : Nat} {L : List (Nat × Nat)} {m : Int} {S : Nat → Prop} (h : StL w b g L m) (ht : Touch S w w') (h1 : ¬ S b) (h2 : ¬ S g) : StL w' b g L m := ⟨h.row.touch ht h1, h.cells.touch ht h2⟩
theorem StL.grow {w w' : World} {b g : Nat} {L : List (Nat × Nat)} {m : Int} (h : StL w b g L m) (ht : Grows w w') : StL w' b g L m := ⟨h.row.grow ht, h.cells.grow ht⟩
theorem stLen (b : Nat) (g n c : Nat) (u : Value) (v : Value) (w : World) (h : Arr w b 230 [.slice (some ⟨g, 0, none⟩) n c, u, v]) : Calls Try.prog 165 #[.pointer (some ⟨b, 0, none⟩)] w fun e w' => e = .returned (.int .i64 (n : Int)) ∧ w = w' := by
  go_enter Try.func165, Try.ntmps165
  go_wp2
  go_ret
  exact ⟨rfl, rfl⟩
theorem stAt (b g n c : Nat) (u v : Value) (i : Nat) (w : World) (h : Arr w b 230 [.slice (some ⟨g, 0, none⟩) n c, u, v]) (hi : i < n) : Calls Try.prog 152 #[.pointer (some ⟨b, 0, none⟩), .int .i64 (i : Int)] w fun e w' => e = .returned (.pointer (some ⟨g, i * 2, none⟩)) ∧ w = w' := by
  go_enter Try.func152, Try.ntmps152
  go_wp2_with (first | (go_at_call 165; refine (stLen b g n c u v _ h).mono ?_; rintro e w' ⟨rfl, rfl⟩))
  go_ret
  exact ⟨rfl, rfl⟩
set_option maxHeartbeats 1000000 in
theorem stGet (b g : Nat) (L : List (Nat × Nat)) (m : Int) (i : Nat) (w : World) (h : StL w b g L m) (hi : i < L.length) :
    Calls Try.prog 153 #[.pointer (some ⟨b, 0, none⟩), .int .i64 (i : Int)] w fun e w' => e = .returned (.tuple #[.int .u64 (if (gp L i).2 = 1 then ((gp L i).1 : Int) else 0), .bool (decide ((gp L i).2 = 1))]) ∧ Grows w w' := by
  have m0 := h.c0 hi
  have m1 := h.c1 hi
  have hr := h.row
  have HR := hide hr
  generalize gp L i = p at *
  obtain ⟨x, t⟩ := p
  dsimp only at *
  by_cases ht : t = 1
  · subst ht
    go_enter Try.func153, Try.ntmps153
    go_wp2_with (go_at_call 152; refine (stAt b g _ _ _ _ i _ HR.out hi).mono ?_; rintro e w' ⟨rfl, rfl⟩)
    ((first | refine wp_region_gen2 (by kernel_rfl) (by kernel_rfl) ?_ | refine wp_region_gen (by kernel_rfl) (by kernel_rfl) ?_); (repeat' (first | (refine gLex_val0 rfl (by kernel_rfl) (fun K hK => ?_); (go_simp; (try (simp only [↓IntWalk.iteOmega]; try go_simp)); (try simp (disch := omega) only [IntWalk.i64_in]); (try simp (disch := omega) only [IntWalk.u64_in]); first | (refine hK _ ?_; clear hK K) | (apply Exists.intro; refine ⟨fun x => ?_, hK _ ?_⟩; (first | fail); clear hK K))) | (refine gLex_undef rfl rfl rfl (by kernel_rfl) (fun K hK => ?_); go_simp; refine hK _ ?_; clear hK K) | (refine gLex_ask rfl rfl rfl ?_; first | (apply gAsk_yes; kernel_rfl; intro K hK; (go_simp; (try (simp only [↓IntWalk.iteOmega]; try go_simp)); (try simp (disch := omega) only [IntWalk.i64_in]); (try simp (disch := omega) only [IntWalk.u64_in]); first | (refine hK _ ?_; clear hK K) | (apply Exists.intro; refine ⟨fun x => ?_, hK _ ?_⟩; (first | fail); clear hK K))) | ((first | apply gAsk_no1 | apply gAsk_no2); kernel_rfl; intro K hK; simp [go_sem]; refine hK _ ?_; clear hK K) | (apply gAsk_part; kernel_rfl; all_goals (intro h K hK; (try simp only [Bool.not_true] at h); (try simp only [Bool.not_false] at h); (try simp only [decide_eq_true_eq] at h); (try simp only [decide_eq_false_iff_not] at h); first | (exfalso; first | contradiction | omega) | (go_simp; (try (simp only [↓IntWalk.iteOmega]; try go_simp)); (try simp (disch := omega) only [IntWalk.i64_in]); (try simp (disch := omega) only [IntWalk.u64_in]); first | (refine hK _ ?_; clear hK K) | (apply Exists.intro; refine ⟨fun x => ?_, hK _ ?_⟩; (first | fail); clear hK K))))))); all_goals ((apply gLex_end); intro y))
    go_wp2_with fail
    go_ret2
    exact ⟨rfl, GG⟩
  · have hb : ((t : Int) == 1) = false := beq_eq_false_iff_ne.2 (by omega)
    have hb2 : ((t : Int) != 1) = true := by simp [bne, hb]
    have HT := hide ht
    clear ht
    go_enter Try.func153, Try.ntmps153
    go_wp2_with (go_at_call 152; refine (stAt b g _ _ _ _ i _ HR.out hi).mono ?_; rintro e w' ⟨rfl, rfl⟩)
    ((first | refine wp_region_gen2 (by kernel_rfl) (by kernel_rfl) ?_ | refine wp_region_gen (by kernel_rfl) (by kernel_rfl) ?_); (repeat' (first | (refine gLex_val0 rfl (by kernel_rfl) (fun K hK => ?_); (go_simp; (try (simp only [↓IntWalk.iteOmega]; try go_simp)); (try simp (disch := omega) only [IntWalk.i64_in]); (try simp (disch := omega) only [IntWalk.u64_in]); first | (refine hK _ ?_; clear hK K) | (apply Exists.intro; refine ⟨fun x => ?_, hK _ ?_⟩; (first | fail); clear hK K))) | (refine gLex_undef rfl rfl rfl (by kernel_rfl) (fun K hK => ?_); go_simp; refine hK _ ?_; clear hK K) | (refine gLex_ask rfl rfl rfl ?_; first | (apply gAsk_yes; kernel_rfl; intro K hK; (go_simp; (try (simp only [↓IntWalk.iteOmega]; try go_simp)); (try simp (disch := omega) only [IntWalk.i64_in]); (try simp (disch := omega) only [IntWalk.u64_in]); first | (refine hK _ ?_; clear hK K) | (apply Exists.intro; refine ⟨fun x => ?_, hK _ ?_⟩; (first | fail); clear hK K))) | ((first | apply gAsk_no1 | apply gAsk_no2); kernel_rfl; intro K hK; simp [go_sem]; refine hK _ ?_; clear hK K) | (apply gAsk_part; kernel_rfl; all_goals (intro h K hK; (try simp only [Bool.not_true] at h); (try simp only [Bool.not_false] at h); (try simp only [decide_eq_true_eq] at h); (try simp only [decide_eq_false_iff_not] at h); first | (exfalso; first | contradiction | omega) | (go_simp; (try (simp only [↓IntWalk.iteOmega]; try go_simp)); (try simp (disch := omega) only [IntWalk.i64_in]); (try simp (disch := omega) only [IntWalk.u64_in]); first | (refine hK _ ?_; clear hK K) | (apply Exists.intro; refine ⟨fun x => ?_, hK _ ?_⟩; (first | fail); clear hK K))))))); all_goals ((apply gLex_end); intro y))
    go_wp2_with fail
    go_ret2
    refine ⟨?_, GG⟩
    simp
theorem StL.put {w W : World} {b g : Nat} {L : List (Nat × Nat)} {m : Int} (h : StL w b g L m) (hg : Grows w W) (i v : Nat) (hi : i < L.length) (m' : Int) :
    StL ((W.setCell ⟨g, i * 2, none⟩ (.int .u64 (v : Int))).setCell ⟨g, i * 2 + 1, none⟩ (.int .u64 1)) b g (L.set i (v, 1)) m ∧ StL (((W.setCell ⟨b, 2, none⟩ (.int .i64 m')).setCell ⟨g, i * 2, none⟩ (.int .u64 (v : Int))).setCell ⟨g, i * 2 + 1, none⟩ (.int .u64 1)) b g (L.set i (v, 1)) m' := by
  have hne := h.ne
  have e := scs_set L i (v, 1) hi
  have hl : (L.set i (v, 1)).length = L.length := List.length_set
  constructor
  · refine ⟨?_, ?_⟩
    · rw [hl]; exact ((h.row.grow hg).other hne _).other hne _
    · rw [hl, ← e]; exact ((h.cells.grow hg).set _ _).set _ _
  · refine ⟨?_, ?_⟩
    · rw [hl]; exact (((h.row.grow hg).set 2 _).other hne _).other hne _
    · rw [hl, ← e]; exact (((h.cells.grow hg).other (Ne.symm hne) _).set _ _).set _ _
set_option maxHeartbeats 2000000 in
theorem stPut (b g : Nat) (L : List (Nat × Nat)) (m : Int) (i v : Nat) (w : World) (h : StL w b g L m) (hi : i < L.length) :
    Calls Try.prog 124 #[.pointer (some ⟨b, 0, none⟩), .int .i64 (i : Int), .int .u64 (v : Int)] w fun e w' => e = .returned (.bool true) ∧ (∃ m', StL w' b g (L.set i (v, 1)) m') ∧ Touch (fun k => k = b ∨ k = g) w w' := by
  have m0 := h.c0 hi
  have m1 := h.c1 hi
  have HR := hide h.row
  have HH := hide h
  have hr := h.row
  have hne := h.ne
  clear h
  have HNE := hide hne
  generalize hp : gp L i = p at *
  obtain ⟨x, t⟩ := p
  dsimp only at *
  clear hp hne
  by_cases ht : t = 1
  · subst ht
    go_enter Try.func124, Try.ntmps124
    go_wp2_with (go_at_call 152; refine (stAt b g _ _ _ _ i _ HR.out hi).mono ?_; rintro e w' ⟨rfl, rfl⟩)
    ((first | refine wp_region_gen2 (by kernel_rfl) (by kernel_rfl) ?_ | refine wp_region_gen (by kernel_rfl) (by kernel_rfl) ?_); (repeat' (first | (refine gLex_val0 rfl (by kernel_rfl) (fun K hK => ?_); (go_simp; (try (simp only [↓IntWalk.iteOmega]; try go_simp)); (try simp (disch := omega) only [IntWalk.i64_in]); (try simp (disch := omega) only [IntWalk.u64_in]); first | (refine hK _ ?_; clear hK K) | (apply Exists.intro; refine ⟨fun x => ?_, hK _ ?_⟩; (first | fail); clear hK K))) | (refine gLex_undef rfl rfl rfl (by kernel_rfl) (fun K hK => ?_); go_simp; refine hK _ ?_; clear hK K) | (refine gLex_ask rfl rfl rfl ?_; first | (apply gAsk_yes; kernel_rfl; intro K hK; (go_simp; (try (simp only [↓IntWalk.iteOmega]; try go_simp)); (try simp (disch := omega) only [IntWalk.i64_in]); (try simp (disch := omega) only [IntWalk.u64_in]); first | (refine hK _ ?_; clear hK K) | (apply Exists.intro; refine ⟨fun x => ?_, hK _ ?_⟩; (first | fail); clear hK K))) | ((first | apply gAsk_no1 | apply gAsk_no2); kernel_rfl; intro K hK; simp [go_sem]; refine hK _ ?_; clear hK K) | (apply gAsk_part; kernel_rfl; all_goals (intro h K hK; (try simp only [Bool.not_true] at h); (try simp only [Bool.not_false] at h); (try simp only [decide_eq_true_eq] at h); (try simp only [decide_eq_false_iff_not] at h); first | (exfalso; first | contradiction | omega) | (go_simp; (try (simp only [↓IntWalk.iteOmega]; try go_simp)); (try simp (disch := omega) only [IntWalk.i64_in]); (try simp (disch := omega) only [IntWalk.u64_in]); first | (refine hK _ ?_; clear hK K) | (apply Exists.intro; refine ⟨fun x => ?_, hK _ ?_⟩; (first | fail); clear hK K))))))); all_goals ((apply gLex_end); intro y))
    go_wp2_with fail
    have hgy : Grows w y.now := GG
    go_ret
    exact ⟨rfl, ⟨m, (HH.out.put hgy i v hi 0).1⟩, ((hgy.touch _).set (.inl (.inr rfl)) _).set (.inl (.inr rfl)) _⟩
  · have hb : ((t : Int) == 1) = false := beq_eq_false_iff_ne.2 (by omega)
    have hb2 : ((t : Int) != 1) = true := by simp [bne, hb]
    clear ht
    go_enter Try.func124, Try.ntmps124
    go_wp2_with (go_at_call 152; refine (stAt b g _ _ _ _ i _ HR.out hi).mono ?_; rintro e w' ⟨rfl, rfl⟩)
    ((first | refine wp_region_gen2 (by kernel_rfl) (by kernel_rfl) ?_ | refine wp_region_gen (by kernel_rfl) (by kernel_rfl) ?_); (repeat' (first | (refine gLex_val0 rfl (by kernel_rfl) (fun K hK => ?_); (go_simp; (try (simp only [↓IntWalk.iteOmega]; try go_simp)); (try simp (disch := omega) only [IntWalk.i64_in]); (try simp (disch := omega) only [IntWalk.u64_in]); first | (refine hK _ ?_; clear hK K) | (apply Exists.intro; refine ⟨fun x => ?_, hK _ ?_⟩; (first | fail); clear hK K))) | (refine gLex_undef rfl rfl rfl (by kernel_rfl) (fun K hK => ?_); go_simp; refine hK _ ?_; clear hK K) | (refine gLex_ask rfl rfl rfl ?_; first | (apply gAsk_yes; kernel_rfl; intro K hK; (go_simp; (try (simp only [↓IntWalk.iteOmega]; try go_simp)); (try simp (disch := omega) only [IntWalk.i64_in]); (try simp (disch := omega) only [IntWalk.u64_in]); first | (refine hK _ ?_; clear hK K) | (apply Exists.intro; refine ⟨fun x => ?_, hK _ ?_⟩; (first | fail); clear hK K))) | ((first | apply gAsk_no1 | apply gAsk_no2); kernel_rfl; intro K hK; simp [go_sem]; refine hK _ ?_; clear hK K) | (apply gAsk_part; kernel_rfl; all_goals (intro h K hK; (try simp only [Bool.not_true] at h); (try simp only [Bool.not_false] at h); (try simp only [decide_eq_true_eq] at h); (try simp only [decide_eq_false_iff_not] at h); first | (exfalso; first | contradiction | omega) | (go_simp; (try (simp only [↓IntWalk.iteOmega]; try go_simp)); (try simp (disch := omega) only [IntWalk.i64_in]); (try simp (disch := omega) only [IntWalk.u64_in]); first | (refine hK _ ?_; clear hK K) | (apply Exists.intro; refine ⟨fun x => ?_, hK _ ?_⟩; (first | fail); clear hK K))))))); all_goals ((apply gLex_end); intro y))
    go_upto_region 6 with fail
    have hgy : Grows w y.now := GG
    have n0 : Mine (y.now.setCell ⟨b, 2, none⟩ (.int .i64 (wrap64 (m + 1)))) ⟨g, i * 2, none⟩ _ := Mine.set_other inferInstance _ (by intro e; injection e with e; exact HNE.out e.symm)
    have n1 : Mine (y.now.setCell ⟨b, 2, none⟩ (.int .i64 (wrap64 (m + 1)))) ⟨g, i * 2 + 1, none⟩ _ := Mine.set_other inferInstance _ (by intro e; injection e with e; exact HNE.out e.symm)
    have n2 : Mine (y.now.setCell ⟨b, 2, none⟩ (.int .i64 (wrap64 (m + 1)))) ⟨b, 1, none⟩ (.int .u64 1) := Mine.set_other inferInstance _ (by intro e; injection e with _ e; cases e)
    go_wp2_with fail
    go_ret
    exact ⟨rfl, ⟨_, (HH.out.put hgy i v hi _).2⟩, (((hgy.touch _).set (.inl (.inl rfl)) _).set (.inl (.inr rfl)) _).set (.inl (.inr rfl)) _⟩
def stD (L : List (Nat × Nat)) (i : Nat) : Option Nat := if (gp L i).2 = 1 then some (gp L i).1 else none
def lessB (o : Option Nat) (v : Nat) : Bool := match o with | none => true | some u => decide (v < u)
def GiveLeast (w : World) (b g : Nat) (L : List (Nat × Nat)) (i v : Nat) (r : Bool) (e : Ending) (w' : World) : Prop :=
  e = .returned (.bool r) ∧ (∃ m', StL w' b g (if r then L.set i (v, 1) else L) m') ∧ Touch (fun k => k = b ∨ k = g) w w'
set_option maxHeartbeats 2000000 in
theorem stLeast (b g : Nat) (L : List (Nat × Nat)) (m : Int) (i v : Nat) (w : World) (h : StL w b g L m) (hi : i < L.length) :
    Calls Try.prog 125 #[.pointer (some ⟨b, 0, none⟩), .int .i64 (i : Int), .int .u64 (v : Int)] w (GiveLeast w b g L i v (lessB (stD L i) v)) := by
  have HH := hide h
  have CG := hide (fun (W : World) (hg : Grows w W) => stGet b g L m i W (h.grow hg) hi)
  have CP := hide (fun (W : World) (hg : Grows w W) => stPut b g L m i v W (h.grow hg) hi)
  clear h
  unfold stD
  generalize hp : gp L i = p at *
  obtain ⟨x, t⟩ := p
  dsimp only at *
  clear hp
  by_cases ht : t = 1
  · subst ht
    by_cases hv : v < x
    · have hd : decide ((x : Int) ≤ (v : Int)) = false := decide_eq_false (by omega)
      have hd1 : decide (x ≤ v) = false := decide_eq_false (by omega)
      have HV : lessB (if (1 : Nat) = 1 then some x else none) v = true := decide_eq_true hv
      rw [HV]
      clear hv HV
      go_enter Try.func125, Try.ntmps125
      go_wp2_with (first
        | (go_at_call 153; refine (CG.out _ GG).mono ?_; rintro e w' ⟨rfl, hg⟩; obtain ⟨y, rfl⟩ := hg.later; clear hg)
        | (go_at_call 124; refine (CP.out _ GG).mono ?_; rintro e w' ⟨rfl, hs, ht⟩; have HS := hide hs; have HT := hide ht; clear hs ht))
      have hgy : Grows w y.now := GG
      go_ret
      exact ⟨rfl, HS.out, (hgy.touch _).trans HT.out⟩
    · have hd : decide ((x : Int) ≤ (v : Int)) = true := decide_eq_true (by omega)
      have hd1 : decide (x ≤ v) = true := decide_eq_true (by omega)
      have HV : lessB (if (1 : Nat) = 1 then some x else none) v = false := decide_eq_false hv
      rw [HV]
      clear hv HV
      go_enter Try.func125, Try.ntmps125
      go_wp2_with (first
        | (go_at_call 153; refine (CG.out _ GG).mono ?_; rintro e w' ⟨rfl, hg⟩; obtain ⟨y, rfl⟩ := hg.later; clear hg))
      have hgy : Grows w y.now := GG
      go_ret
      exact ⟨rfl, ⟨m, HH.out.grow hgy⟩, hgy.touch _⟩
  · rw [if_neg ht]
    have HV : lessB none v = true := rfl
    rw [HV]
    rw [if_neg ht, decide_eq_false ht] at CG
    clear ht HV
    go_enter Try.func125, Try.ntmps125
    go_wp2_with (first
      | (go_at_call 153; refine (CG.out _ GG).mono ?_; rintro e w' ⟨rfl, hg⟩; obtain ⟨y, rfl⟩ := hg.later; clear hg)
      | (go_at_call 124; refine (CP.out _ GG).mono ?_; rintro e w' ⟨rfl, hs, ht⟩; have HS := hide hs; have HT := hide ht; clear hs ht))
    have hgy : Grows w y.now := GG
    go_ret
    exact ⟨rfl, HS.out, (hgy.touch _).trans HT.out⟩
end Go.Proofs.Ytgplpgldhoelcaa

namespace Go.Proofs.Ytgplpgldhoelcaa
abbrev Itm := Nat × Nat
def gi2 (L : List Itm) (i : Nat) : Itm := L.getD i (0, 0)
def gz (T : List Int) (v : Nat) : Int := T.getD v 0
def ahead (a b : Itm) : Bool := decide (a.2 < b.2 ∨ a.2 = b.2 ∧ a.1 < b.1)
structure HS where
  L : List Itm
  T : List Int
def HS.lay (s : HS) (i : Nat) (x : Itm) : HS := ⟨s.L.set i x, s.T.set x.1 (i : Int)⟩
theorem HS.lay_len (s : HS) (i : Nat) (x : Itm) : (s.lay i x).L.length = s.L.length ∧ (s.lay i x).T.length = s.T.length := by simp [HS.lay]
def HS.rise (s : HS) (i : Nat) (x : Itm) : HS :=
  if _h : 0 < i ∧ ahead x (gi2 s.L ((i - 1) / 2)) = true then HS.rise (s.lay i (gi2 s.L ((i - 1) / 2))) ((i - 1) / 2) x else s.lay i x
termination_by i
decreasing_by omega
def HS.low (s : HS) (i : Nat) : Nat := if 2 * i + 1 + 1 < s.L.length ∧ ahead (gi2 s.L (2 * i + 1 + 1)) (gi2 s.L (2 * i + 1)) = true then 2 * i + 1 + 1 else 2 * i + 1
theorem HS.low_gt (s : HS) (i : Nat) : i < s.low i := by unfold HS.low; split <;> omega
def HS.sink (s : HS) (i : Nat) (x : Itm) : HS :=
  if _h : s.low i < s.L.length ∧ ahead (gi2 s.L (s.low i)) x = true then HS.sink (s.lay i (gi2 s.L (s.low i))) (s.low i) x else s.lay i x
termination_by s.L.length - i
decreasing_by
  have := HS.low_gt s i
  have := (HS.lay_len s i (gi2 s.L (s.low i))).1
  omega
def HS.put (s : HS) (v key : Nat) : HS × Bool :=
  if gz s.T v = -1 then (HS.rise ⟨s.L ++ [(v, key)], s.T⟩ s.L.length (v, key), true)
  else if (gi2 s.L (gz s.T v).toNat).2 ≤ key then (s, false) else (s.rise (gz s.T v).toNat (v, key), true)
def HS.drop (s : HS) (v : Nat) : HS :=
  let i := (gz s.T v).toNat
  let last := s.L.length - 1
  let x := gi2 s.L last
  let s1 : HS := ⟨s.L.take last, s.T.set v (-1)⟩
  if i = last then s1 else
    let s2 := s1.sink i x
    if gz s2.T x.1 = (i : Int) then s2.rise i x else s2
def HS.In (s : HS) (N : Nat) : Prop := s.T.length = N ∧ ∀ i, i < s.L.length → (gi2 s.L i).1 < N
theorem gi2_set (L : List Itm) (i j : Nat) (x : Itm) (hi : i < L.length) : gi2 (L.set i x) j = if j = i then x else gi2 L j := by
  unfold gi2
  by_cases h : j = i
  · subst h; simp [hi]
  · simp [h, Ne.symm h]
theorem HS.In.lay {s : HS} {N : Nat} (h : s.In N) (i : Nat) (x : Itm) (hx : x.1 < N) : (s.lay i x).In N := by
  refine ⟨by rw [(HS.lay_len s i x).2]; exact h.1, fun j hj => ?_⟩
  rw [(HS.lay_len s i x).1] at hj
  unfold HS.lay
  by_cases hi : i < s.L.length
  · rw [gi2_set _ _ _ _ hi]
    split
    · exact hx
    · exact h.2 j hj
  · have : s.L.set i x = s.L := List.set_eq_of_length_le (by omega)
    simp only [this]
    exact h.2 j hj
theorem HS.rise_in {s : HS} {N : Nat} (h : s.In N) (i : Nat) (x : Itm) (hx : x.1 < N) (hi : i < s.L.length) : (s.rise i x).In N := by
  induction i using Nat.strongRecOn generalizing s with
  | _ i ih =>
    rw [HS.rise]
    split
    · rename_i hc
      exact ih ((i - 1) / 2) (by omega) (h.lay i _ (h.2 _ (by omega))) (by rw [(HS.lay_len _ _ _).1]; omega)
    · exact h.lay i x hx
end Go.Proofs.Ytgplpgldhoelcaa

namespace Go.Proofs.Ytgplpgldhoelcaa
open Go Go.RowKit

def Yields' {α : Type} (J : List α → (Nat → Prop) → World → Prop) : Prop :=
  ∀ pre M W M' W', J pre M W → Touch M W W' → (∀ k, M' k → (M k ∨ W.heap.size ≤ k) ∧ k < W'.heap.size) → J pre M' W'

def With2 (M : Nat → Prop) (d l : Nat) (k : Nat) : Prop := M k ∨ k = d ∨ k = l
def Book (M : Nat → Prop) (D l : Nat) (o : Obj) (W : World) : Prop :=
  W.heap[l]? = some o ∧ W.heap[D]? = some (.deferred (some [])) ∧ ¬ M l ∧ ¬ M D ∧ D ≠ l ∧ ∀ k, M k → k < W.heap.size

theorem Yields'.ex {α β : Type} {J : β → List α → (Nat → Prop) → World → Prop} (h : ∀ c, Yields' (J c)) : Yields' (fun pre M W => ∃ c, J c pre M W) :=
  fun pre M W M' W' ⟨c, h1⟩ ht hM => ⟨c, h c pre M W M' W' h1 ht hM⟩
theorem Yields'.and {α : Type} {I J : List α → (Nat → Prop) → World → Prop} (h : Yields' I) (k : Yields' J) : Yields' (fun pre M W => I pre M W ∧ J pre M W) :=
  fun pre M W M' W' ⟨h1, h2⟩ ht hM => ⟨h pre M W M' W' h1 ht hM, k pre M W M' W' h2 ht hM⟩
theorem Book.turn {M : Nat → Prop} {D l : Nat} {o : Obj} {W : World} (h : Book M D l o W) (o' : Obj) : Book M D l o' (W.putObj l o') := by
  obtain ⟨h2, h3, h4, h5, h6, h7⟩ := h
  exact ⟨World.putObj_heap_same (Array.getElem?_eq_some_iff.1 h2).1, (World.putObj_heap_other h6).trans h3, h4, h5, h6, fun k hk => by simp; exact h7 k hk⟩
theorem Book.inv {α : Type} {M : Nat → Prop} {D l : Nat} {o : Obj} {W : World} (h : Book M D l o W) {I : List α → (Nat → Prop) → World → Prop} (hI : Yields' I) {pre : List α} (hi : I pre (With2 M D l) W) (o' : Obj) : I pre (With2 M D l) (W.putObj l o') := by
  obtain ⟨h2, h3, h4, h5, h6, h7⟩ := h
  have l2 := (Array.getElem?_eq_some_iff.1 h2).1
  have l3 := (Array.getElem?_eq_some_iff.1 h3).1
  refine hI pre _ W _ _ hi ((Touch.refl _ W).put (.inl (.inr (.inr rfl))) o') fun k hk => ⟨.inl hk, ?_⟩
  rw [World.putObj_size]
  rcases hk with hk | rfl | rfl
  · exact h7 k hk
  · exact l3
  · exact l2
theorem Book.keeps {M : Nat → Prop} {D l : Nat} {B : Nat → Prop} {o : Obj} {W W' : World} (h : Book M D l o W) (hk : Keeps B (With2 M D l) W W') : Book M D l o W' := by
  obtain ⟨h2, h3, h4, h5, h6, h7⟩ := h
  exact ⟨hk.at (.inr (.inr (.inr rfl))) h2, hk.at (.inr (.inr (.inl rfl))) h3, h4, h5, h6, fun k hk' => Nat.lt_of_lt_of_le (h7 k hk') hk.size⟩

section
variable {α : Type} {P : Program} {g : Operand} {ps : Array Tmp} {assign body : Code} {Q : Exit → Act → World → Prop} {a : Act} {w w0 : World}

end
end Go.Proofs.Ytgplpgldhoelcaa

namespace Go.Proofs.Ytgplpgldhoelcaa
open Go Go.RowKit

theorem least {p : Nat → Prop} (h : ∃ m, p m) : ∃ m, p m ∧ ∀ k, p k → m ≤ k := by
  obtain ⟨m, hm⟩ := h
  induction m using Nat.strongRecOn with
  | _ m ih =>
    by_cases hk : ∃ k, k < m ∧ p k
    · obtain ⟨k, h1, h2⟩ := hk
      exact ih k h1 h2
    · exact ⟨m, hm, fun k hp => Nat.le_of_not_lt fun h => hk ⟨k, h, hp⟩⟩
theorem least_fn (Inv : Nat → Act → World → Prop) : ∃ μ : Act → World → Nat, ∀ a w, (∃ m, Inv m a w) → Inv (μ a w) a w ∧ ∀ k, Inv k a w → μ a w ≤ k := by
  have h : ∀ a w, ∃ m, (∃ m, Inv m a w) → Inv m a w ∧ ∀ k, Inv k a w → m ≤ k := fun a w => by
    by_cases he : ∃ m, Inv m a w
    · obtain ⟨m, hm⟩ := least he
      exact ⟨m, fun _ => hm⟩
    · exact ⟨0, fun h => absurd h he⟩
  exact ⟨fun a w => Classical.choose (h a w), fun a w => Classical.choose_spec (h a w)⟩
def marks (Ds : List Nat) : List Deferred := Ds.map fun D => { target := .collected D, args := #[] }
def Marks (Ds : List Nat) (W : World) : Prop := Ds.Nodup ∧ ∀ D ∈ Ds, W.heap[D]? = some (.deferred (some []))
theorem Marks.nil (W : World) : Marks [] W := ⟨List.nodup_nil, fun D h => by cases h⟩
theorem Marks.touch {Ds : List Nat} {W W' : World} {S : Nat → Prop} (h : Marks Ds W) (ht : Touch S W W') (hs : ∀ D ∈ Ds, ¬ S D) : Marks Ds W' := ⟨h.1, fun D hD => ht.at (hs D hD) (h.2 D hD)⟩
theorem Marks.keeps {Ds : List Nat} {W W' : World} {B M : Nat → Prop} (h : Marks Ds W) (ht : Keeps B M W W') (hs : ∀ D ∈ Ds, M D) : Marks Ds W' := ⟨h.1, fun D hD => ht.at (.inr (hs D hD)) (h.2 D hD)⟩
theorem Marks.cons {Ds : List Nat} {W : World} {D : Nat} (h : Marks Ds W) (hD : W.heap[D]? = some (.deferred (some []))) (hn : D ∉ Ds) : Marks (D :: Ds) W :=
  ⟨List.nodup_cons.2 ⟨hn, h.1⟩, fun E hE => by
    rcases List.mem_cons.1 hE with rfl | hE
    · exact hD
    · exact h.2 E hE⟩
end Go.Proofs.Ytgplpgldhoelcaa

