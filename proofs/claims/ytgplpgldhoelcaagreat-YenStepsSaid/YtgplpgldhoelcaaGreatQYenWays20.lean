/- Contract: what finds the shortest simple ways between two nodes, one by one. -/
import Derived.Test.YtgplpgldhoelcaaGreatQYenWays05
import Derived.Test.YtgplpgldhoelcaaGreatQYenWays19
namespace Go.Proofs.YtgplpgldhoelcaaGreat
open Go Go.RowKit
attribute [local go_sem] Oper.semAt_some
def yeF (N : Int) (E : List Edg) (s t : Int) : Int := if rightF N E ≠ 0 then 1 else if nodeB N s = false ∨ nodeB N t = false then 7 else 0
theorem yeF_ok {N : Int} {E : List Edg} {s t : Int} (h : yeF N E s t = 0) : rightF N E = 0 ∧ ∃ NN sN tN : Nat, N = NN ∧ s = sN ∧ t = tN ∧ sN < NN ∧ tN < NN := by
  unfold yeF at h
  split at h
  · cases h
  · split at h
    · cases h
    · rename_i h1 h2
      have h3 : nodeB N s = true := by cases hb : nodeB N s with | true => rfl | false => exact absurd (.inl hb) h2
      have h4 : nodeB N t = true := by cases hb : nodeB N t with | true => rfl | false => exact absurd (.inr hb) h2
      unfold nodeB at h3 h4
      simp only [decide_eq_true_eq] at h3 h4
      exact ⟨by omega, N.toNat, s.toNat, t.toNat, by omega, by omega, by omega, by omega, by omega⟩
set_option maxHeartbeats 2000000 in
theorem yeNewBad (N : Int) (A : Option Addr) (n c : Nat) (E : List Edg) (s t : Int) (w : World) (h : Rd w A 3 n (esCells E)) (hn : n ≤ 1000000) (hbad : yeF N E s t ≠ 0) :
    Calls Tryz.prog 25 #[.agg #[.int .i64 N, .slice A n c], .int .i64 s, .int .i64 t] w fun e w' => e = .returned (.tuple #[.pointer none, .int .i64 (yeF N E s t)]) ∧ Grows w w' := by
  have C1 := hide (fun (W : World) (g : Grows w W) => gRight N A n c E W (h.grows g) hn)
  have C2 := hide (fun (v : Int) (W : World) => gNode N v (.slice A n c) W)
  by_cases hr : rightF N E = 0
  · rw [hr] at C1
    cases hs : nodeB N s with
    | false =>
      have e : yeF N E s t = 7 := by unfold yeF; rw [if_neg (by omega), if_pos (.inl hs)]
      rw [e]
      have C3 := hide (fun (W : World) => C2.out s W)
      rw [hs] at C3
      clear h hbad hr hs e C2
      go_enter Tryz.func25, Tryz.ntmps25
      go_wp2_with (first
        | (go_at_call 76; refine (C1.out _ GG).mono ?_; rintro e w' ⟨rfl, hg⟩; obtain ⟨x1, rfl⟩ := hg.later; clear hg)
        | (go_at_call 77; refine (C3.out _).mono ?_; rintro e w' ⟨rfl, hg⟩; obtain ⟨x2, rfl⟩ := hg.later; clear hg))
      exact bodyPost_ret (v := .tuple #[.pointer none, .int .i64 7]) (by simp (maxDischargeDepth := 6) [results, Tryz.results25, go_sem]) rfl ⟨rfl, GG⟩
    | true =>
      cases ht : nodeB N t with
      | true =>
        refine absurd ?_ hbad
        unfold yeF
        rw [if_neg (by omega), if_neg (by rw [hs, ht]; simp)]
      | false =>
        have e : yeF N E s t = 7 := by unfold yeF; rw [if_neg (by omega), if_pos (.inr ht)]
        rw [e]
        have hne : s ≠ t := fun e => by rw [e, ht] at hs; cases hs
        have C3 := hide (fun (W : World) => C2.out s W)
        have C4 := hide (fun (W : World) => C2.out t W)
        rw [hs] at C3
        rw [ht] at C4
        clear h hbad hr hs ht e C2
        go_enter Tryz.func25, Tryz.ntmps25
        go_wp2_with (go_at_call 76; refine (C1.out _ GG).mono ?_; rintro e w' ⟨rfl, hg⟩; obtain ⟨x1, rfl⟩ := hg.later; clear hg)
        go_at_call 77
        refine (C3.out _).mono ?_
        rintro e w' ⟨rfl, hg⟩
        obtain ⟨x2, rfl⟩ := hg.later
        clear hg
        go_wp2_with fail
        go_at_call 77
        refine (C4.out _).mono ?_
        rintro e w' ⟨rfl, hg⟩
        obtain ⟨x3, rfl⟩ := hg.later
        clear hg
        go_wp2_with fail
        exact bodyPost_ret (v := .tuple #[.pointer none, .int .i64 7]) (by simp (maxDischargeDepth := 6) [results, Tryz.results25, go_sem]) rfl ⟨rfl, GG⟩
  · have e : yeF N E s t = 1 := by unfold yeF; rw [if_pos hr]
    rw [e]
    have hb : ((rightF N E) != 0) = true := by simpa using hr
    generalize rightF N E = f at *
    clear h hbad hr e C2
    go_enter Tryz.func25, Tryz.ntmps25
    go_wp2_with (go_at_call 76; refine (C1.out _ GG).mono ?_; rintro e w' ⟨rfl, hg⟩; obtain ⟨x1, rfl⟩ := hg.later; clear hg)
    exact bodyPost_ret (v := .tuple #[.pointer none, .int .i64 1]) (by simp (maxDischargeDepth := 6) [results, Tryz.results25, go_sem]) rfl ⟨rfl, GG⟩
def GiveNw (w : World) (N : Nat) (E : List Edg) (s t : Nat) (e : Ending) (w' : World) : Prop :=
  ∃ b Ag cg Aw cw rsW W, e = .returned (.tuple #[.pointer (some ⟨b, 0, none⟩), .int .i64 0]) ∧ YnAt w' b N E s t Ag cg none 0 [] [] Aw cw rsW W ∧ YOk E s t [] W ∧ w.heap.size ≤ b ∧ (∀ p, Aw = some p → w.heap.size ≤ p.block) ∧ Grows w w'
theorem yok_ins {E : List Edg} {s t : Nat} {l : List Nat} {W : List (List Nat)} (h : SP E s t l) (hf : ∀ p, SP E s t p → rLe E l p) (hI : Ins E [] l W) : YOk E s t [] W :=
  ⟨fun a ha => (by cases ha), fun p hp => by
    rcases (hI.mem p).1 hp with e | e
    · cases e
    · rw [e]; exact ⟨h, List.not_mem_nil⟩, hI.sort, fun p i _ _ ⟨a, ha, _⟩ => (by cases ha), fun _ p hp => ⟨l, (hI.mem l).2 (.inr rfl), hf p hp⟩⟩
theorem SP.lft {E : List Edg} {s t : Nat} {l : List Nat} (h : SP E s t l) : Lft E t s [] [] l := ⟨h.1, fun _ _ => List.not_mem_nil, fun _ _ => List.not_mem_nil⟩
set_option maxRecDepth 20000 in
set_option maxHeartbeats 8000000 in
theorem yeNew (N : Nat) (A : Option Addr) (n c : Nat) (E : List Edg) (s t : Nat) (w : World) (h : Rd w A 3 n (esCells E)) (hn : n ≤ 1000000) (hr : rightF (N : Int) E = 0) (hs : s < N) (ht : t < N) :
    Calls Tryz.prog 25 #[.agg #[.int .i64 (N : Int), .slice A n c], .int .i64 (s : Int), .int .i64 (t : Int)] w (GiveNw w N E s t) := by
  unfold GiveNw
  have hel : E.length = n := h.elen
  have C1 := hide (fun (W : World) (g : Grows w W) => gRight (N : Int) A n c E W (h.grows g) hn)
  rw [hr] at C1
  have C2 := hide (fun (W : World) => gNode (N : Int) (s : Int) (.slice A n c) W)
  have C3 := hide (fun (W : World) => gNode (N : Int) (t : Int) (.slice A n c) W)
  rw [show nodeB (N : Int) (s : Int) = true from decide_eq_true ⟨by omega, by omega⟩] at C2
  rw [show nodeB (N : Int) (t : Int) = true from decide_eq_true ⟨by omega, by omega⟩] at C3
  have C4 := hide (fun (W : World) (g : Grows w W) => gClone (N : Int) A n c E W (h.grows g) hn)
  unfold GiveOG at C4
  obtain ⟨l, f, rr, hp⟩ := isPath_any E ⟨false, [], [], [], 0⟩ (N : Int) (s : Int) (t : Int) (by simp) (by simp)
  have C5 := hide (fun (X : World) (g : Grows w X) => show Calls Tryz.prog 79 #[.agg #[.int .i64 (N : Int), .slice A n c], .int .i64 (s : Int), .int .i64 (t : Int), .agg #[.bool false, .slice none 0 0, .slice none 0 0, .slice none 0 0, .int .u64 0]] X fun e w' =>
      ∃ A' c', e = .returned (.tuple #[.agg #[.slice A' l.length c', .int .u64 (f : Int)], .int .i64 rr]) ∧ Own w' X.heap.size 3 1 A' l.length c' (nv l) ∧ Grows X w' from by
    have h0 : Rd X none 1 0 [] := ⟨by simp, fun h => absurd h (by simp)⟩
    have := caPath (N : Int) (s : Int) (t : Int) A c E ⟨false, [], [], [], 0⟩ none none none 0 0 0 l f rr X (by rw [hel]; exact h.grows g) h0 h0 ⟨by simp [wv], fun h => absurd h (by simp)⟩ (by omega) (by simp) hp
    rw [hel] at this
    exact this)
  have hci := can_is hr hs ht hp
  clear h hp hel
  go_enter Tryz.func25, Tryz.ntmps25
  go_upto_region 3 with (go_at_call 76; refine (C1.out _ GG).mono ?_; rintro e w' ⟨rfl, hg⟩; obtain ⟨x1, rfl⟩ := hg.later; clear hg)
  go_wp2_with fail
  go_at_call 77
  refine (C2.out _).mono ?_
  rintro e w' ⟨rfl, hg⟩
  obtain ⟨x2, rfl⟩ := hg.later
  clear hg
  go_wp2_with fail
  go_at_call 77
  refine (C3.out _).mono ?_
  rintro e w' ⟨rfl, hg⟩
  obtain ⟨x3, rfl⟩ := hg.later
  clear hg
  go_upto_region 6 with (go_at_call 78; refine (C4.out _ GG).mono ?_; rintro e w' ⟨A1, c1, rfl, ho1, hg⟩; obtain ⟨x4, rfl⟩ := hg.later; have HO1 := hide ho1; clear ho1 hg)
  go_upto_region 7 with (go_at_call 79; refine (C5.out _ GG).mono ?_; rintro e w' ⟨Ap, cp, rfl, hop, hg⟩; obtain ⟨x5, rfl⟩ := hg.later; have HOP := hide hop; clear hop hg)
  have hsz1 := x1.grows.size
  have hsz2 := x2.grows.size
  have hsz3 := x3.grows.size
  have hsz4 := x4.grows.size
  have hsz5 := x5.grows.size
  have hb : w.heap.size ≤ x4.now.heap.size := (show Grows w x4.now from GG).size
  have hb5 : x4.now.heap.size < x5.now.heap.size := by simp at hsz5; omega
  have hbox : Arr (x4.now.alloc (.cells #[.int .i64 (N : Int), .slice A1 E.length c1, .int .i64 (s : Int), .int .i64 (t : Int), .slice none 0 0, .slice none 0 0] 130)) x4.now.heap.size 130 [.int .i64 (N : Int), .slice A1 E.length c1, .int .i64 (s : Int), .int .i64 (t : Int), .slice none 0 0, .slice none 0 0] := Arr.make _ _ _
  have hg5 : Grows (x4.now.alloc (.cells #[.int .i64 (N : Int), .slice A1 E.length c1, .int .i64 (s : Int), .int .i64 (t : Int), .slice none 0 0, .slice none 0 0] 130)) (x5.now.alloc (.cells #[.slice Ap l.length cp, .int .u64 (f : Int)] 53)) := GG
  have hY : YnAt (x5.now.alloc (.cells #[.slice Ap l.length cp, .int .u64 (f : Int)] 53)) x4.now.heap.size N E s t A1 c1 none 0 [] [] none 0 [] [] := ⟨hbox.grow hg5, (HO1.out.base (B' := 0) (Nat.zero_le _)).grows GG, RtsAt.nil _ _, RtsAt.nil _ _, fun p q hp => (by cases hp)⟩
  have HY := hide hY
  have HB := hide hb
  have HB5 := hide hb5
  clear hY hbox hg5 hb hb5 hsz1 hsz2 hsz3 hsz4 hsz5 C1 C2 C3 C4 C5
  rcases hci with ⟨h1, h2, h3, h4, h5, h6⟩ | ⟨h1, -, -, h2⟩
  · subst h1
    subst h4
    have hsp : SP E s t l := ⟨h2.1, h3⟩
    have hsl : l.length ≤ 1000000 := by have h7 := hsp.short hr hs; have h8 := (right_in hr).2.1; omega
    have HF := hide (fun (W' : List (List Nat)) (hI : Ins E [] l W') => yok_ins hsp (fun p hp => h6 p hp.lft (hp.light hr hs).1) hI)
    have hop : Own (x5.now.alloc (.cells #[.slice Ap l.length cp, .int .u64 (wE E l : Int)] 53)) 0 3 1 Ap l.length cp (nv l) := (HOP.out.base (B' := 0) (Nat.zero_le _)).grows GG
    have CP := hide (yePut x4.now.heap.size N E s t A1 c1 none 0 [] [] none 0 [] [] Ap cp l _ HY.out (by simp) (by simp) hsl (fun p hp => (by cases hp)) hop)
    unfold GiveYp rVal at CP
    clear h2 h3 h5 h6 hr hs ht hsp hop
    go_wp2_with (go_at_call 80; refine CP.out.mono ?_; rintro e w' ⟨rfl, Aw', cw', rsW', W', hy', hI, htc, hnw⟩; have HQ := hide (And.intro hy' (And.intro hI (And.intro htc hnw))); clear hy' hI htc hnw)
    have hg1 : Grows w (x5.now.alloc (.cells #[.slice Ap l.length cp, .int .u64 (wE E l : Int)] 53)) := GG
    have hb := HB.out
    have hg2 : Grows w w' := HQ.out.2.2.1.later hg1 (fun k hk => by
      rcases hk with e | ⟨p, e, _⟩
      · omega
      · cases e)
    exact bodyPost_ret (v := .tuple #[.pointer (some ⟨x4.now.heap.size, 0, none⟩), .int .i64 0]) (by simp (maxDischargeDepth := 6) [results, Tryz.results25, go_sem]) rfl ⟨x4.now.heap.size, A1, c1, Aw', cw', rsW', W', rfl, HQ.out.1, HF.out W' HQ.out.2.1, hb, (fun p hp => by
      rcases HQ.out.2.2.2 p hp with ⟨q, e, _⟩ | h
      · cases e
      · have := h.1
        have := hg1.size
        omega), hg2⟩
  · have hy0 : YOk E s t [] [] := YOk.begin0 fun p hp => h2 p hp.lft (hp.light hr hs).1
    have hb0 : (rr == 0) = false := by simpa using h1
    clear h1 h2 hr hs ht
    go_wp2_with fail
    have hb := HB.out
    exact bodyPost_ret (v := .tuple #[.pointer (some ⟨x4.now.heap.size, 0, none⟩), .int .i64 0]) (by simp (maxDischargeDepth := 6) [results, Tryz.results25, go_sem]) rfl ⟨x4.now.heap.size, A1, c1, none, 0, [], [], rfl, HY.out, hy0, hb, (fun p hp => by cases hp), GG⟩
end Go.Proofs.YtgplpgldhoelcaaGreat

namespace Go.Proofs.YtgplpgldhoelcaaGreat
open Go Go.RowKit
attribute [local go_sem] Oper.semAt_some
theorem ways_next {w0 : Nat} {wg w w' : World} {b N : Nat} {E : List Edg} {s t : Nat} {Ag At Aw At' Aw' A : Option Addr} {cg ct cw c : Nat} {rsT rsW rs : List Rt} {T W U : List (List Nat)}
    (hw0 : wg.heap.size = w0) (hg : Grows wg w) (hb : w0 ≤ b) (hy : YnAt w b N E s t Ag cg At ct rsT T Aw cw rsW W) (hlo : ∀ p, (At = some p ∨ Aw = some p) → w0 ≤ p.block) (hsep : ∀ p q, A = some p → (At = some q ∨ Aw = some q) → p.block ≠ q.block) (ho : RtsAt w w0 A c rs (rtW E U))
    (ht : Touch (fun k => k = b ∨ (∃ p, At = some p ∧ p.block = k) ∨ ∃ p, Aw = some p ∧ p.block = k) w w') (hn : ∀ p, (At' = some p ∨ Aw' = some p) → (∃ q, (At = some q ∨ Aw = some q) ∧ q.block = p.block) ∨ New w w' p.block) :
    Grows wg w' ∧ RtsAt w' w0 A c rs (rtW E U) ∧ (∀ p, (At' = some p ∨ Aw' = some p) → w0 ≤ p.block) ∧ ∀ p q, A = some p → (At' = some q ∨ Aw' = some q) → p.block ≠ q.block := by
  have hs := hg.size
  refine ⟨ht.later hg fun k hk => ?_, ho.touch ht (fun p hp hk => ?_) (fun r hr p hp hk => ?_), fun p hp => ?_, fun p q hp hq => ?_⟩
  · rcases hk with e | ⟨p, e1, e2⟩ | ⟨p, e1, e2⟩
    · omega
    · have := hlo p (.inl e1); omega
    · have := hlo p (.inr e1); omega
  · rcases hk with e | ⟨q, e1, e2⟩ | ⟨q, e1, e2⟩
    · exact ho.own.not_arr hy.box (by decide) p hp e
    · exact hsep p q hp (.inl e1) e2.symm
    · exact hsep p q hp (.inr e1) e2.symm
  · rcases hk with e | ⟨q, e1, e2⟩ | ⟨q, e1, e2⟩
    · exact (ho.rows r hr).not_arr hy.box (by decide) p hp e
    · exact (ho.rows r hr).not_own hy.told.own (by decide) p q hp e1 e2.symm
    · exact (ho.rows r hr).not_own hy.waits.own (by decide) p q hp e1 e2.symm
  · rcases hn p hp with ⟨q, h1, h2⟩ | h
    · have := hlo q h1; omega
    · have := h.1; omega
  · rcases hn q hq with ⟨q2, h1, h2⟩ | h
    · rw [← h2]; exact hsep p q2 hp h1
    · have h1 := ho.own.ltB p hp
      have h2 := h.1
      omega
theorem ways_app {w0 : Nat} {wg w w1 w2 : World} {b N : Nat} {E : List Edg} {s t : Nat} {Ag At Aw A A' Ar : Option Addr} {cg ct cw c c' cr : Nat} {rsT rsW rs : List Rt} {T W U : List (List Nat)} {r : List Nat}
    (hw0 : wg.heap.size = w0) (hg0 : Grows wg w) (hg : Grows w w1) (hy : YnAt w b N E s t Ag cg At ct rsT T Aw cw rsW W) (hsep : ∀ p q, A = some p → (At = some q ∨ Aw = some q) → p.block ≠ q.block) (ho : RtsAt w w0 A c rs (rtW E U)) (hr : Own w 0 3 1 Ar r.length cr (nv r))
    (hO : Own w2 w0 53 2 A' (rs.length + 1) c' (rs.flatMap rtC ++ [.slice Ar r.length cr, .int .u64 (wE E r : Int)])) (hT : Touch (fun k => ∃ p, A = some p ∧ p.block = k) w1 w2) (hN : ∀ p, A' = some p → (∃ q, A = some q ∧ q.block = p.block) ∨ New w1 w2 p.block) :
    YnAt w2 b N E s t Ag cg At ct rsT T Aw cw rsW W ∧ RtsAt w2 w0 A' c' (rs ++ [(Ar, cr, r, wE E r)]) (rtW E (U ++ [r])) ∧ (∀ p q, A' = some p → (At = some q ∨ Aw = some q) → p.block ≠ q.block) ∧ Grows wg w2 := by
  have hy1 := hy.grow hg
  have ho1 := ho.grows hg
  have hr1 := hr.grows hg
  have hs := hg.size
  refine ⟨hy1.touch hT (fun ⟨p, hp, e⟩ => ho1.own.not_arr hy1.box (by decide) p hp e) (fun p hp ⟨q, hq, e⟩ => ho1.own.not_own hy1.gr (by decide) q p hq hp e) (fun p hp ⟨q, hq, e⟩ => hsep q p hq (.inl hp) e) (fun p hp ⟨q, hq, e⟩ => hsep q p hq (.inr hp) e) (fun x hx p hp ⟨q, hq, e⟩ => ?_), ⟨?_, fun x hx => ?_, ?_⟩, fun p q hp hq => ?_, hT.later (hg0.trans hg) fun k ⟨p, hp, e⟩ => ?_⟩
  · rcases hx with hx | hx
    · exact (hy1.told.rows x hx).not_own ho1.own (by decide) p q hp hq e.symm
    · exact (hy1.waits.rows x hx).not_own ho1.own (by decide) p q hp hq e.symm
  · rw [List.length_append, List.length_singleton, List.flatMap_append]
    exact hO
  · rcases List.mem_append.1 hx with hx | hx
    · exact (ho1.rows x hx).touch hT (fun p hp ⟨q, hq, e⟩ => (ho1.rows x hx).not_own ho1.own (by decide) p q hp hq e.symm)
    · rw [List.mem_singleton.1 hx]
      exact hr1.touch hT (fun p hp ⟨q, hq, e⟩ => hr1.not_own ho1.own (by decide) p q hp hq e.symm)
  · rw [List.map_append, ho.eqs]
    simp [rtW]
  · rcases hN p hp with ⟨q2, h1, h2⟩ | h
    · rw [← h2]; exact hsep q2 q h1 hq
    · have h1 := h.1
      rcases hq with hq | hq
      · have := hy.told.own.ltB q hq; omega
      · have := hy.waits.own.ltB q hq; omega
  · have := (ho1.own.ty p hp).1
    omega
structure WsAt (w0 : Nat) (w : World) (b N : Nat) (E : List Edg) (s t : Nat) (Ag : Option Addr) (cg : Nat) (T : List (List Nat)) (A : Option Addr) (c : Nat) (rs : List Rt) : Prop where
  out : RtsAt w w0 A c rs (rtW E T)
  yen : ∃ At ct rsT Aw cw rsW W, YnAt w b N E s t Ag cg At ct rsT T Aw cw rsW W ∧ YOk E s t T W ∧ (∀ p, (At = some p ∨ Aw = some p) → w0 ≤ p.block) ∧ ∀ p q, A = some p → (At = some q ∨ Aw = some q) → p.block ≠ q.block
def slN : Value → Nat
  | .slice _ n _ => n
  | _ => 0
set_option maxHeartbeats 2000000 in
theorem yeWaysBad (N : Int) (A : Option Addr) (n c : Nat) (E : List Edg) (s t k : Int) (w : World) (h : Rd w A 3 n (esCells E)) (hn : n ≤ 1000000) (hbad : yeF N E s t ≠ 0) :
    Calls Tryz.prog 19 #[.agg #[.int .i64 N, .slice A n c], .int .i64 s, .int .i64 t, .int .i64 k] w fun e w' => e = .returned (.tuple #[.slice none 0 0, .int .i64 (yeF N E s t)]) ∧ Grows w w' := by
  have C1 := hide (fun (X : World) (g : Grows w X) => yeNewBad N A n c E s t X (h.grows g) hn hbad)
  have hb : (yeF N E s t != 0) = true := by simpa using hbad
  generalize yeF N E s t = f at *
  clear h hbad
  go_enter Tryz.func19, Tryz.ntmps19
  go_wp2_with fail
  go_step3
  go_wp2_with (go_at_call 25; refine (C1.out _ GG).mono ?_; rintro e w' ⟨rfl, hg⟩; obtain ⟨x1, rfl⟩ := hg.later; clear hg)
  rw [Exit.noGoto_ret]
  exact bodyPost_ret (v := .tuple #[.slice none 0 0, .int .i64 f]) (by simp (maxDischargeDepth := 6) [results, Tryz.results19, go_sem]) rfl ⟨rfl, GG⟩
set_option maxRecDepth 20000 in
set_option maxHeartbeats 8000000 in
theorem yeWays (N : Nat) (A : Option Addr) (n c : Nat) (E : List Edg) (s t k : Nat) (all : List (List Nat)) (w : World) (h : Rd w A 3 n (esCells E)) (hn : n ≤ 1000000) (hr : rightF (N : Int) E = 0) (hN : N ≤ 60) (hs : s < N) (ht : t < N) (ha : AllR E s t all) (hal : all.length ≤ 10000) (hk1 : 1 ≤ k) (hk2 : k ≤ 1024) :
    Calls Tryz.prog 19 #[.agg #[.int .i64 (N : Int), .slice A n c], .int .i64 (s : Int), .int .i64 (t : Int), .int .i64 (k : Int)] w fun e w' => ∃ A' c' rs, e = .returned (.tuple #[.slice A' rs.length c', .int .i64 0]) ∧ RtsAt w' w.heap.size A' c' rs (rtW E (all.take k)) ∧ Grows w w' := by
  have C1 := hide (fun (X : World) (g : Grows w X) => yeNew N A n c E s t X (h.grows g) hn hr hs ht)
  unfold GiveNw at C1
  have HR := hide hr
  have HALL := hide ha
  have HAL := hide hal
  clear h hr ha hal
  go_enter Tryz.func19, Tryz.ntmps19
  go_wp2_with fail
  go_step3
  obtain ⟨wg, hwg⟩ : ∃ wg, wg = w.alloc (.cells #[.int .i64 (N : Int), .slice A n c] 35) := ⟨_, rfl⟩
  have hgg : Grows w wg := by rw [hwg]; exact (Grows.refl _).new _
  have a1 : Arr wg w.heap.size 35 [.int .i64 (N : Int), .slice A n c] := by rw [hwg]; exact Arr.make _ _ _
  rw [← hwg]
  clear hwg
  obtain ⟨b4, hb4⟩ : ∃ b4, b4 = w.heap.size := ⟨_, rfl⟩
  rw [← hb4] at a1 ⊢
  have HB4 := hide hb4
  clear hb4
  go_wp2_with (go_at_call 25; refine (C1.out _ (hgg.trans GG)).mono ?_; rintro e w' ⟨b, Ag, cg, Aw, cw, rsW, W, rfl, hy, hok, hb, hlo, hg⟩; obtain ⟨x1, rfl⟩ := hg.later; have HY := hide hy; have HOK := hide hok; have HBB := hide hb; have HLO := hide hlo; clear hy hok hb hlo hg)
  go_step3
  go_wp2_with fail
  clear C1
  obtain ⟨w0, hw0⟩ : ∃ w0, wg.heap.size = w0 := ⟨_, rfl⟩
  have hgs := hgg.size
  go_loopw [8] (fun out wr => ∃ (i : Nat) (A8 : Option Addr) (c8 : Nat) (rs : List Rt), i ≤ k ∧ i ≤ all.length ∧ out = .slice A8 rs.length c8 ∧ rs.length = i ∧ ∃ y : Later wg, wr = y.now ∧ Hid (WsAt w0 y.now b N E s t Ag cg (all.take i) A8 c8 rs)) (fun out _ => k - slN out)
  case atStart => exact ⟨0, none, 0, [], by omega, by omega, rfl, rfl, x1, rfl, hide ⟨RtsAt.nil _ _, _, _, _, _, _, _, _, HY.out, HOK.out, fun p hp => hp.elim (fun h => (by cases h)) (fun h => hw0 ▸ HLO.out p h), fun p q hp => (by cases hp)⟩⟩
  case round =>
    obtain ⟨i, A8, c8, rs, hik, hia, rfl, hri, y, rfl, hws⟩ := hrel
    subst hri
    have HO8 := hide hws.out.out
    obtain ⟨At, ct, rsT, Aw, cw, rsW, W, hy, hok, hlo, hsep⟩ := hws.out.yen
    clear HY HOK HLO
    by_cases hlt : rs.length < k
    · cases W with
      | nil =>
        have hal := hok.empty HALL.out
        have CN := hide (yeNextNone b N E s t Ag cg At ct rsT (all.take rs.length) Aw cw rsW y.now hy)
        have HTK := hide (show all.take k = all.take rs.length by rw [List.take_of_length_le (by omega), List.take_of_length_le (by omega)])
        clear hy hok hlo hsep
        go_wp2_with (go_at_call 29; refine CN.out.mono ?_; rintro e w2 ⟨rfl, hg⟩; obtain ⟨y2, rfl⟩ := hg.later; clear hg)
        all_goals
          rw [Exit.noGoto_ret]
          have hg2 : Grows y.now (y2.now.alloc (.cells #[.slice none 0 0, .int .u64 0] 53)) := GG
          have hgy : Grows w (y2.now.alloc (.cells #[.slice none 0 0, .int .u64 0] 53)) := hgg.trans (y.grows.trans hg2)
          exact bodyPost_ret (v := .tuple #[.slice A8 rs.length c8, .int .i64 0]) (by simp (maxDischargeDepth := 6) [results, Tryz.results19, go_sem]) rfl ⟨A8, c8, rs, rfl, by
            rw [HTK.out]
            have h1 := HO8.out.grows hg2
            exact ⟨h1.own.base (by omega), h1.rows, h1.eqs⟩, hgy⟩
      | cons r W =>
        obtain ⟨h1, h2, h3⟩ := hok.head HALL.out
        have CN := hide (yeNext b N E s t Ag cg At ct rsT (all.take rs.length) Aw cw rsW r W all y.now hy hok HR.out hN hs ht HALL.out HAL.out (by rw [List.length_take]; have := HAL.out; omega))
        unfold GiveNx at CN
        have HNX := hide (fun (w2 : World) (At' Aw' : Option Addr) => ways_next (w' := w2) (At' := At') (Aw' := Aw') hw0 y.grows (hw0 ▸ HBB.out) hy hlo hsep HO8.out)
        rw [h3] at CN
        clear hy hok hlo hsep
        have hlen : rs.length ≤ 100000 := by omega
        go_wp2_with (first
          | (go_at_call 29; refine CN.out.mono ?_; rintro e w2 ⟨A2, c2, rfl, ho2, At2, ct2, rsT2, Aw2, cw2, rsW2, W2, hy2, hok2, ht2, hn2⟩; have hq2 := HNX.out w2 At2 Aw2 ht2 hn2; obtain ⟨y2, rfl⟩ := hq2.1.later; have HO2 := hide ho2; have HY2 := hide hy2; have HOK2 := hide hok2; have HQ2 := hide hq2.2; clear ho2 hy2 hok2 ht2 hn2 hq2)
          | (at_builtin; refine wp_appT elemRoute rfl _ _ rfl w0 (hw0 ▸ (show Grows wg _ from GG).size) rs.length c8 A8 _ rfl (HQ2.out.1.grows (show Grows y2.now _ from GG)).own _ _ [.slice A2 r.length c2, .int .u64 (wE E r : Int)] rfl rfl (fun j u hu => by
              match j, hu with
              | 0, hu => simp at hu; subst hu; simp [go_sem]
              | 1, hu => simp at hu; subst hu; simp [go_sem]) (fun u hu => by simp at hu; rcases hu with rfl | rfl <;> rfl) (by omega) ?_; intro A5 c5 w5 hown5 ht5 hn5; have hqa := ways_app hw0 y2.grows (show Grows y2.now _ from GG) HY2.out HQ2.out.2.2 HQ2.out.1 HO2.out hown5 ht5 hn5; obtain ⟨y5, rfl⟩ := hqa.2.2.2.later; have HM := hide hqa; clear hown5 ht5 hn5 hqa))
        go_roundw
        case measure => simp [slN]; omega
        case rel => exact ⟨rs.length + 1, A5, c5, rs ++ [(A2, c2, r, wE E r)], by omega, by omega, by rw [List.length_append, List.length_singleton], by rw [List.length_append, List.length_singleton], y5, rfl, hide ⟨by rw [← h3]; exact HM.out.2.1, At2, ct2, rsT2, Aw2, cw2, rsW2, W2, HM.out.1, HOK2.out, HQ2.out.2.1, HM.out.2.2.1⟩⟩
    · go_wp2_with fail
      rw [Exit.noGoto_ret]
      exact bodyPost_ret (v := .tuple #[.slice A8 rs.length c8, .int .i64 0]) (by simp (maxDischargeDepth := 6) [results, Tryz.results19, go_sem]) rfl ⟨A8, c8, rs, rfl, by
        rw [show k = rs.length by omega]
        exact ⟨HO8.out.own.base (by omega), HO8.out.rows, HO8.out.eqs⟩, hgg.trans y.grows⟩
end Go.Proofs.YtgplpgldhoelcaaGreat

namespace Go.Proofs.YtgplpgldhoelcaaGreat
open Go Go.RowKit
attribute [local go_sem] Oper.semAt_some
theorem yeF_at {N : Int} {E : List Edg} {s t : Int} (h : rightF N E = 0) : yeF N E s t = if s < 0 ∨ N ≤ s ∨ t < 0 ∨ N ≤ t then 7 else 0 := by
  unfold yeF
  rw [if_neg (by omega)]
  have e : (nodeB N s = false ∨ nodeB N t = false) ↔ (s < 0 ∨ N ≤ s ∨ t < 0 ∨ N ≤ t) := by
    unfold nodeB
    simp only [decide_eq_false_iff_not]
    omega
  simp only [e]
set_option maxHeartbeats 2000000 in
theorem r30Check (N : Int) (A : Option Addr) (n c : Nat) (E : List Edg) (s t : Int) (w : World) (h : Rd w A 3 n (esCells E)) (hn : n ≤ 1000000) :
    Calls Tryz.prog 26 #[.agg #[.int .i64 N, .slice A n c], .int .i64 s, .int .i64 t] w fun e w' => e = .returned (.int .i64 (yeF N E s t)) ∧ Grows w w' := by
  have C1 := hide (fun (X : World) (g : Grows w X) => r5Right N A n c E X (h.grows g) hn)
  clear h
  by_cases hr : rightF N E = 0
  · rw [yeF_at hr]
    rw [hr] at C1
    clear hr
    by_cases h1 : s < 0
    · rw [if_pos (.inl h1)]
      go_enter Tryz.func26, Tryz.ntmps26
      go_wp2_with (go_at_call 81; refine (C1.out _ GG).mono ?_; rintro e w' ⟨rfl, hg⟩; obtain ⟨x1, rfl⟩ := hg.later; clear hg)
      go_ret
      exact ⟨rfl, GG⟩
    · by_cases h2 : N ≤ s
      · rw [if_pos (.inr (.inl h2))]
        go_enter Tryz.func26, Tryz.ntmps26
        go_wp2_with (go_at_call 81; refine (C1.out _ GG).mono ?_; rintro e w' ⟨rfl, hg⟩; obtain ⟨x1, rfl⟩ := hg.later; clear hg)
        go_ret
        exact ⟨rfl, GG⟩
      · by_cases h3 : t < 0
        · rw [if_pos (.inr (.inr (.inl h3)))]
          go_enter Tryz.func26, Tryz.ntmps26
          go_wp2_with (go_at_call 81; refine (C1.out _ GG).mono ?_; rintro e w' ⟨rfl, hg⟩; obtain ⟨x1, rfl⟩ := hg.later; clear hg)
          go_ret
          exact ⟨rfl, GG⟩
        · by_cases h4 : N ≤ t
          · rw [if_pos (.inr (.inr (.inr h4)))]
            go_enter Tryz.func26, Tryz.ntmps26
            go_wp2_with (go_at_call 81; refine (C1.out _ GG).mono ?_; rintro e w' ⟨rfl, hg⟩; obtain ⟨x1, rfl⟩ := hg.later; clear hg)
            go_ret
            exact ⟨rfl, GG⟩
          · rw [if_neg (by omega)]
            go_enter Tryz.func26, Tryz.ntmps26
            go_wp2_with (go_at_call 81; refine (C1.out _ GG).mono ?_; rintro e w' ⟨rfl, hg⟩; obtain ⟨x1, rfl⟩ := hg.later; clear hg)
            go_ret
            exact ⟨rfl, GG⟩
  · rw [show yeF N E s t = 1 from by unfold yeF; rw [if_pos hr]]
    have hb : (rightF N E != 0) = true := by simpa using hr
    generalize rightF N E = f at *
    clear hr
    go_enter Tryz.func26, Tryz.ntmps26
    go_wp2_with (go_at_call 81; refine (C1.out _ GG).mono ?_; rintro e w' ⟨rfl, hg⟩; obtain ⟨x1, rfl⟩ := hg.later; clear hg)
    go_ret
    exact ⟨rfl, GG⟩
set_option maxHeartbeats 2000000 in
theorem r31WaysBad (N : Int) (A : Option Addr) (n c : Nat) (E : List Edg) (s t k : Int) (w : World) (h : Rd w A 3 n (esCells E)) (hn : n ≤ 1000000) (hbad : yeF N E s t ≠ 0) :
    Calls Tryz.prog 20 #[.agg #[.int .i64 N, .slice A n c], .int .i64 s, .int .i64 t, .int .i64 k] w fun e w' => e = .returned (.tuple #[.slice none 0 0, .int .i64 (yeF N E s t)]) ∧ Grows w w' := by
  have C1 := hide (fun (X : World) (g : Grows w X) => r30Check N A n c E s t X (h.grows g) hn)
  have hb : (yeF N E s t != 0) = true := by simpa using hbad
  generalize yeF N E s t = f at *
  clear h hbad
  go_enter Tryz.func20, Tryz.ntmps20
  go_wp2_with (go_at_call 26; refine (C1.out _ GG).mono ?_; rintro e w' ⟨rfl, hg⟩; obtain ⟨x1, rfl⟩ := hg.later; clear hg)
  exact bodyPost_ret (v := .tuple #[.slice none 0 0, .int .i64 f]) (by simp (maxDischargeDepth := 6) [results, Tryz.results20, go_sem]) rfl ⟨rfl, GG⟩
set_option maxHeartbeats 2000000 in
theorem r31WaysK (N : Int) (A : Option Addr) (n c : Nat) (E : List Edg) (s t k : Int) (w : World) (h : Rd w A 3 n (esCells E)) (hn : n ≤ 1000000) (hok : yeF N E s t = 0) (hk : k < 1 ∨ 1024 < k) :
    Calls Tryz.prog 20 #[.agg #[.int .i64 N, .slice A n c], .int .i64 s, .int .i64 t, .int .i64 k] w fun e w' => e = .returned (.tuple #[.slice none 0 0, .int .i64 1]) ∧ Grows w w' := by
  have C1 := hide (fun (X : World) (g : Grows w X) => r30Check N A n c E s t X (h.grows g) hn)
  rw [hok] at C1
  clear h hok
  rcases hk with hk | hk
  all_goals
    go_enter Tryz.func20, Tryz.ntmps20
    go_wp2_with (go_at_call 26; refine (C1.out _ GG).mono ?_; rintro e w' ⟨rfl, hg⟩; obtain ⟨x1, rfl⟩ := hg.later; clear hg)
    exact bodyPost_ret (v := .tuple #[.slice none 0 0, .int .i64 1]) (by simp (maxDischargeDepth := 6) [results, Tryz.results20, go_sem]) rfl ⟨rfl, GG⟩
set_option maxHeartbeats 2000000 in
theorem yeWaysK (N : Nat) (A : Option Addr) (n c : Nat) (E : List Edg) (s t : Nat) (k : Int) (w : World) (h : Rd w A 3 n (esCells E)) (hn : n ≤ 1000000) (hr : rightF (N : Int) E = 0) (hs : s < N) (ht : t < N) (hk : k < 1 ∨ 1024 < k) :
    Calls Tryz.prog 19 #[.agg #[.int .i64 (N : Int), .slice A n c], .int .i64 (s : Int), .int .i64 (t : Int), .int .i64 k] w fun e w' => e = .returned (.tuple #[.slice none 0 0, .int .i64 1]) ∧ Grows w w' := by
  have C1 := hide (fun (X : World) (g : Grows w X) => (yeNew N A n c E s t X (h.grows g) hn hr hs ht).mono (fun e w' h => show e = e ∧ _ from ⟨rfl, h⟩))
  unfold GiveNw at C1
  clear h hr hs ht
  rcases hk with hk | hk
  all_goals
    go_enter Tryz.func19, Tryz.ntmps19
    go_wp2_with fail
    go_step3
    go_wp2_with (go_at_call 25; refine (C1.out _ GG).mono ?_; rintro e w' ⟨_, b, Ag, cg, Aw, cw, rsW, W, rfl, _, _, _, _, hg⟩; obtain ⟨x1, rfl⟩ := hg.later; clear hg)
    rw [Exit.noGoto_ret]
    exact bodyPost_ret (v := .tuple #[.slice none 0 0, .int .i64 1]) (by simp (maxDischargeDepth := 6) [results, Tryz.results19, go_sem]) rfl ⟨rfl, GG⟩
end Go.Proofs.YtgplpgldhoelcaaGreat

