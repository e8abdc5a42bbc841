/- Contract: is there a lighter way past a node? -/
import Derived.Test.YtgplpgldhoelcaaQChangeAgain09
import Derived.Test.YtgplpgldhoelcaaQChangeAgain10
import Derived.WalkMore
import Derived.Test.YtgplpgldhoelcaaQChangeAgain04
namespace Go.Proofs.Ytgplpgldhoelcaa
open Go Go.RowKit
attribute [local go_sem] Oper.semAt_some
def wsV (o : Option Nat) : Value := .tuple #[.int .u64 ((o.getD 0 : Nat) : Int), .bool o.isSome]
theorem runsTo_mono11 {P : Program} {Q Q' : Value → World → Prop} {r : Result Next} (h : runsTo P Q r) (hi : ∀ u w, Q u w → Q' u w) : runsTo P Q' r := by
  cases r with
  | halt x w' => simp only [runsTo] at h
  | ok x w' =>
    cases x <;> simp only [runsTo] at h ⊢
    case value u => exact hi _ _ h
    case skip => exact hi _ _ h
    case enter f args => exact h.mono fun e w'' ⟨u, he, h1⟩ => ⟨u, he, hi _ _ h1⟩
theorem rep_of {N : Nat} {T : List Int} (hl : T.length = N) (h : ∀ j, j < N → gz T j = -1) : T = List.replicate N (-1) := by
  apply List.ext_getElem
  · simp [hl]
  · intro i h1 h2
    have := h i (by omega)
    unfold gz at this
    rw [List.getD_eq_getElem?_getD, List.getElem?_eq_getElem h1] at this
    simpa using this
theorem wsArc_kb {G : List Bool} {v d B : Nat} {st : WS} {a : Itm} (h : ∀ x, gn st.k x ≤ B) (x : Nat) : gn (wsArc G v d st a).k x ≤ B + 1 := by
  unfold wsArc
  split
  · have h1 := h x
    have h2 := h v
    show gn (st.k.set a.1 (gn st.k v + 1)) x ≤ B + 1
    unfold gn at *
    rw [List.getD_eq_getElem?_getD, List.getElem?_set]
    split
    · split
      · show _ ≤ _
        simp only [Option.getD_some]
        omega
      · simp
    · rw [← List.getD_eq_getElem?_getD]
      omega
  · have := h x
    omega
theorem wsArcs_kb {O : NetO} {G : List Bool} {v d : Nat} (l : List Itm) : ∀ {B : Nat} {st : WS}, (∀ x, gn st.k x ≤ B) → ∀ x, gn (wsArcs O G v d st l).k x ≤ B + l.length := by
  induction l with
  | nil => exact fun h x => h x
  | cons a l ih =>
    intro B st h x
    have := ih (wsArc_kb (G := G) (v := v) (d := d) (a := a) h) x
    rw [List.length_cons]
    have e : wsArcs O G v d st (a :: l) = wsArcs O G v d (wsArc G v d st a) l := rfl
    rw [e]
    omega
def KbOk (k : Nat) (st : WS) : Prop := ∃ B, B ≤ k * 1000000 ∧ ∀ x, gn st.k x ≤ B
set_option maxRecDepth 40000 in
set_option maxHeartbeats 16000000 in
theorem wtSearch (Ao Ag : Option Addr) (co cg : Nat) (O : NetO) (G : List Bool) (u t below hops settles : Nat) (w : World) (h : NetRd w Ao Ag O G) (hin : NIn O) (hu : u < O.length) (ht : t < O.length) (hN : O.length ≤ 4096) (hW : ∀ v a, a ∈ ga O v → a.2 ≤ 1152921504606846976) (hlen : ∀ v, (ga O v).length ≤ 1000000) (hb : below ≤ 2305843009213693952) (_ : hops ≤ 1000) (hs : settles ≤ 1000) :
    Calls Try.prog 78 #[.agg #[.slice Ao O.length co, .slice Ag O.length cg], .int .i64 (u : Int), .int .i64 (t : Int), .int .u64 (below : Int), .int .i64 (hops : Int), .int .i64 (settles : Int)] w fun e w' => e = .returned (wsV (wsFind O G u t below hops settles)) ∧ Grows w w' := by
  obtain ⟨bo, oo, rfl, bg, og, rfl, hg⟩ := h.base (by omega)
  have g1 := hg u hu
  have g2 := hg t ht
  have HNET := hide h
  have HGG := hide hg
  clear h hg
  obtain ⟨W1, hW1⟩ : ∃ W1, W1 = w.alloc (.cells #[.slice (some ⟨bo, oo, none⟩) O.length co, .slice (some ⟨bg, og, none⟩) O.length cg] 34) := ⟨_, rfl⟩
  have hgw1 : Grows w W1 := by rw [hW1]; exact (Grows.refl _).new _
  have a6 : Arr W1 w.heap.size 34 [.slice (some ⟨bo, oo, none⟩) O.length co, .slice (some ⟨bg, og, none⟩) O.length cg] := by rw [hW1]; exact Arr.make _ _ _
  have HF := hide (show wsFind O G u t below hops settles = if bb G u = true ∨ bb G t = true then none else wsRun O G t below hops settles (ws0 O.length u) from rfl)
  generalize wsFind O G u t below hops settles = r at *
  cases hgu : bb G u with
  | true =>
    rw [hgu] at g1 HF
    rw [if_pos (.inl rfl)] at HF
    have hr := HF.out
    subst hr
    clear HF
    go_enter Try.func78, Try.ntmps78
    go_upto_region 1 with fail
    rw [← hW1]
    clear hW1
    generalize w.heap.size = b6 at *
    obtain ⟨y1, rfl⟩ := hgw1.later
    go_wp2_with fail
    go_step3
    go_wp2_with fail
    rw [Exit.noGoto_ret]
    refine bodyPost_ret (v := .tuple #[.int .u64 0, .bool false]) (by simp (maxDischargeDepth := 6) [results, Try.results78, go_sem, *]) rfl ⟨rfl, y1.grows⟩
  | false =>
    cases hgt : bb G t with
    | true =>
      rw [hgu] at g1 HF
      rw [hgt] at g2 HF
      rw [if_pos (.inr rfl)] at HF
      have hr := HF.out
      subst hr
      clear HF
      go_enter Try.func78, Try.ntmps78
      go_upto_region 1 with fail
      rw [← hW1]
      clear hW1
      generalize w.heap.size = b6 at *
      obtain ⟨y1, rfl⟩ := hgw1.later
      go_wp2_with fail
      go_step3
      go_wp2_with fail
      rw [Exit.noGoto_ret]
      refine bodyPost_ret (v := .tuple #[.int .u64 0, .bool false]) (by simp (maxDischargeDepth := 6) [results, Try.results78, go_sem, *]) rfl ⟨rfl, y1.grows⟩
    | false =>
      rw [hgu] at g1 HF
      rw [hgt] at g2 HF
      rw [if_neg (by simp)] at HF
      clear hgu hgt
      have CS := hide (fun (W : World) => stNew O.length W (by omega))
      have CH := hide (fun (W : World) => hpNew O.length W (by omega))
      have mk := run_makeInts O.length (by omega)
      obtain ⟨N, hNN⟩ : ∃ N, N = O.length := ⟨_, rfl⟩
      rw [← hNN] at CS CH mk hu ht hN a6 hW1 HF ⊢
      have HN := hide hNN
      have HB0 := hide (show w.heap.size < W1.heap.size from a6.lt)
      clear hNN
      go_enter Try.func78, Try.ntmps78
      go_upto_region 1 with fail
      rw [← hW1]
      clear hW1
      generalize hb6 : w.heap.size = b6 at *
      have HB6 := hide hb6
      clear hb6
      obtain ⟨y1, rfl⟩ := hgw1.later
      go_wp2_with fail
      go_step3
      go_upto_region 3 with fail
      obtain ⟨VV, hVV⟩ : ∃ V : Nat × Nat × Nat × Nat × Nat × Nat → Nat → Value, V = fun c j => ([.pointer (some ⟨b6, 0, none⟩), .slice (some ⟨bo, oo, none⟩) N co, .int .i64 (N : Int), .pointer (some ⟨c.1, 0, none⟩), .pointer (some ⟨b6, 0, none⟩), .slice (some ⟨bo, oo, none⟩) N co, .int .i64 (N : Int), .slice (some ⟨c.2.2.1, 0, none⟩) N N,
        .pointer (some ⟨b6, 0, none⟩), .slice (some ⟨bo, oo, none⟩) N co, .int .i64 (N : Int), .pointer (some ⟨c.2.2.2.1, 0, none⟩), .pointer (some ⟨c.1, 0, none⟩), .slice (some ⟨c.2.2.1, 0, none⟩) N N, .pointer (some ⟨c.2.2.2.1, 0, none⟩)] : List Value).getD j undef := ⟨_, rfl⟩
      refine wp_region_some (by kernel_rfl) (by kernel_rfl) (by kernel_rfl) (by kernel_rfl) (by kernel_rfl) VV
        (fun c D w1 => Grows y1.now w1 ∧ (D 3 = true → StL w1 c.1 c.2.1 (List.replicate N (0, 0)) 0 ∧ y1.now.heap.size ≤ c.1 ∧ y1.now.heap.size ≤ c.2.1 ∧ c.1 < w1.heap.size ∧ c.2.1 < w1.heap.size) ∧
          (D 7 = true → Arr w1 c.2.2.1 3 (nv (List.replicate N 0)) ∧ y1.now.heap.size ≤ c.2.2.1 ∧ c.2.2.1 < w1.heap.size) ∧
          (D 11 = true → HpAt w1 (fun k => c.2.2.2.2.1 ≤ k ∧ k < c.2.2.2.2.2) c.2.2.2.1 ⟨[], List.replicate N (-1)⟩ ∧ y1.now.heap.size ≤ c.2.2.2.2.1 ∧ c.2.2.2.2.2 ≤ w1.heap.size) ∧
          (D 3 = true → D 11 = true → (c.1 < c.2.2.2.2.1 ∨ c.2.2.2.2.2 ≤ c.1) ∧ (c.2.1 < c.2.2.2.2.1 ∨ c.2.2.2.2.2 ≤ c.2.1)) ∧
          (D 7 = true → D 11 = true → c.2.2.1 < c.2.2.2.2.1 ∨ c.2.2.2.2.2 ≤ c.2.2.1))
        (0, 0, 0, 0, 0, 0) ⟨(Grows.refl _).drew, fun h => absurd h (by simp), fun h => absurd h (by simp), fun h => absurd h (by simp), fun h => absurd h (by simp), fun h => absurd h (by simp)⟩ ?hs ?he
      case hs =>
        subst hVV
        intro c a hV hO i oo' ho D hcl hD hpre w1 hM
        obtain ⟨hgx, h3, h7, h11, h311, h711⟩ := hM
        obtain ⟨x, rfl⟩ := hgx.later
        match i, ho, hD, hpre with
        | 0, ho, hD, hpre =>
          cases (show some _ = some oo' from ho)
          have e6 := ev_nfK ((hO 6 (notDstK (by kernel_rfl))).trans rfl)
          refine runsTo_mono11 (Q := fun uu w1 => w1 = x.now ∧ uu = (.pointer (some ⟨b6, 0, none⟩) : Value)) ?_ (fun uu w1 ⟨h1, h2⟩ => ⟨c, by subst h1; exact ⟨x.grows, by simpa using h3, by simpa using h7, by simpa using h11, by simpa using h311, by simpa using h711⟩, fun _ _ _ => rfl, .inr h2⟩)
          clear h3 h7 h11 h311 h711
          go_simp
          all_goals exact ⟨rfl, rfl⟩
        | 1, ho, hD, hpre =>
          cases (show some _ = some oo' from ho)
          have e34 := ev_nfK (hV 0 34 rfl)
          refine runsTo_mono11 (Q := fun uu w1 => w1 = x.now ∧ uu = (.slice (some ⟨bo, oo, none⟩) N co : Value)) ?_ (fun uu w1 ⟨h1, h2⟩ => ⟨c, by subst h1; exact ⟨x.grows, by simpa using h3, by simpa using h7, by simpa using h11, by simpa using h311, by simpa using h711⟩, fun _ _ _ => rfl, .inr h2⟩)
          clear h3 h7 h11 h311 h711
          go_simp
          all_goals exact ⟨rfl, rfl⟩
        | 2, ho, hD, hpre =>
          cases (show some _ = some oo' from ho)
          have e35 := ev_nfK (hV 1 35 rfl)
          refine runsTo_mono11 (Q := fun uu w1 => w1 = x.now ∧ uu = (.int .i64 (N : Int) : Value)) ?_ (fun uu w1 ⟨h1, h2⟩ => ⟨c, by subst h1; exact ⟨x.grows, by simpa using h3, by simpa using h7, by simpa using h11, by simpa using h311, by simpa using h711⟩, fun _ _ _ => rfl, .inr h2⟩)
          clear h3 h7 h11 h311 h711
          go_simp
          all_goals exact ⟨rfl, rfl⟩
        | 3, ho, hD, hpre =>
          cases (show some _ = some oo' from ho)
          have e36 := ev_nfK (hV 2 36 rfl)
          have n3 : D 3 = false := hD
          have n12 : D 12 = false := by
            cases hd : D 12 with
            | false => rfl
            | true => exact absurd (hcl 12 3 hd (by kernel_rfl)) (by rw [n3]; exact Bool.false_ne_true)
          refine runsTo_mono11 (Q := fun uu w1 => Grows x.now w1 ∧ ∃ b g, uu = .pointer (some ⟨b, 0, none⟩) ∧ StL w1 b g (List.replicate N (0, 0)) 0 ∧ x.now.heap.size ≤ b ∧ b < w1.heap.size ∧ x.now.heap.size ≤ g ∧ g < w1.heap.size) ?_ (fun uu w1 ⟨h4, b, g, h1, h2, z1, z2, z3, z4⟩ => ⟨(b, g, c.2.2), ⟨x.grows.trans h4, fun _ => ⟨h2, Nat.le_trans x.size z1, Nat.le_trans x.size z3, z2, z4⟩, fun hd => ?_, fun hd => ?_, fun _ hd => ?_, fun hd hd2 => ?_⟩, fun j _ hDj => ?_, .inr h1⟩)
          · go_simp
            refine (CS.out _).mono ?_
            rintro e w2 ⟨b, g, rfl, z0, z1, z2, z3, z4, hg⟩
            first | exact ⟨_, rfl, hg, b, g, rfl, z0, z1, z2, z3, z4⟩ | exact ⟨_, rfl, hg, b, rfl, g, z0, z1, z2, z3, z4⟩
          · obtain ⟨z5, z6, z7⟩ := h7 (by simpa using hd)
            exact ⟨z5.grow h4, z6, Nat.lt_of_lt_of_le z7 h4.size⟩
          · obtain ⟨z5, z6, z7⟩ := h11 (by simpa using hd)
            exact ⟨z5.grow h4, z6, Nat.le_trans z7 h4.size⟩
          · obtain ⟨z5, z6, z7⟩ := h11 (by simpa using hd)
            exact ⟨.inr (Nat.le_trans z7 z1), .inr (Nat.le_trans z7 z3)⟩
          · exact h711 (by simpa using hd) (by simpa using hd2)
          · match j, hDj with
            | 0, _ => rfl
            | 1, _ => rfl
            | 2, _ => rfl
            | 3, hDj => exact absurd hDj (by rw [n3]; exact Bool.false_ne_true)
            | 4, _ => rfl
            | 5, _ => rfl
            | 6, _ => rfl
            | 7, _ => rfl
            | 8, _ => rfl
            | 9, _ => rfl
            | 10, _ => rfl
            | 11, _ => rfl
            | 12, hDj => exact absurd hDj (by rw [n12]; exact Bool.false_ne_true)
            | 13, _ => rfl
            | 14, _ => rfl
            | n + 15, _ => rfl
        | 4, ho, hD, hpre =>
          cases (show some _ = some oo' from ho)
          have e6 := ev_nfK ((hO 6 (notDstK (by kernel_rfl))).trans rfl)
          refine runsTo_mono11 (Q := fun uu w1 => w1 = x.now ∧ uu = (.pointer (some ⟨b6, 0, none⟩) : Value)) ?_ (fun uu w1 ⟨h1, h2⟩ => ⟨c, by subst h1; exact ⟨x.grows, by simpa using h3, by simpa using h7, by simpa using h11, by simpa using h311, by simpa using h711⟩, fun _ _ _ => rfl, .inr h2⟩)
          clear h3 h7 h11 h311 h711
          go_simp
          all_goals exact ⟨rfl, rfl⟩
        | 5, ho, hD, hpre =>
          cases (show some _ = some oo' from ho)
          have e38 := ev_nfK (hV 4 38 rfl)
          refine runsTo_mono11 (Q := fun uu w1 => w1 = x.now ∧ uu = (.slice (some ⟨bo, oo, none⟩) N co : Value)) ?_ (fun uu w1 ⟨h1, h2⟩ => ⟨c, by subst h1; exact ⟨x.grows, by simpa using h3, by simpa using h7, by simpa using h11, by simpa using h311, by simpa using h711⟩, fun _ _ _ => rfl, .inr h2⟩)
          clear h3 h7 h11 h311 h711
          go_simp
          all_goals exact ⟨rfl, rfl⟩
        | 6, ho, hD, hpre =>
          cases (show some _ = some oo' from ho)
          have e39 := ev_nfK (hV 5 39 rfl)
          refine runsTo_mono11 (Q := fun uu w1 => w1 = x.now ∧ uu = (.int .i64 (N : Int) : Value)) ?_ (fun uu w1 ⟨h1, h2⟩ => ⟨c, by subst h1; exact ⟨x.grows, by simpa using h3, by simpa using h7, by simpa using h11, by simpa using h311, by simpa using h711⟩, fun _ _ _ => rfl, .inr h2⟩)
          clear h3 h7 h11 h311 h711
          go_simp
          all_goals exact ⟨rfl, rfl⟩
        | 7, ho, hD, hpre =>
          cases (show some _ = some oo' from ho)
          have e40 := ev_nfK (hV 6 40 rfl)
          have n7 : D 7 = false := hD
          have n13 : D 13 = false := by
            cases hd : D 13 with
            | false => rfl
            | true => exact absurd (hcl 13 7 hd (by kernel_rfl)) (by rw [n7]; exact Bool.false_ne_true)
          have h4 : Grows x.now (x.now.alloc (.cells (List.replicate N (Value.int .i64 0)).toArray 3)) := (Grows.refl _).new _
          refine runsTo_mono11 (Q := fun uu w1 => w1 = x.now.alloc (.cells (List.replicate N (Value.int .i64 0)).toArray 3) ∧ uu = (.slice (some ⟨x.now.heap.size, 0, none⟩) N N : Value)) ?_ (fun uu w1 hq => ?_)
          · clear h3 h7 h11 h311 h711
            go_simp
            all_goals exact ⟨rfl, rfl⟩
          · obtain ⟨h5, h1⟩ := hq
            subst h5
            refine ⟨(c.1, c.2.1, x.now.heap.size, c.2.2.2), ⟨x.grows.trans h4, fun hd => ?_, fun _ => ?_, fun hd => ?_, fun hd hd2 => ?_, fun _ hd => ?_⟩, fun j _ hDj => ?_, .inr h1⟩
            · obtain ⟨z5, z6, z7, z8, z9⟩ := h3 (by simpa using hd)
              exact ⟨z5.grow h4, z6, z7, Nat.lt_of_lt_of_le z8 h4.size, Nat.lt_of_lt_of_le z9 h4.size⟩
            · have z5 := Arr.make x.now (List.replicate N (Value.int .i64 0)) 3
              exact ⟨by simpa [nv] using z5, x.size, z5.lt⟩
            · obtain ⟨z5, z6, z7⟩ := h11 (by simpa using hd)
              exact ⟨z5.grow h4, z6, Nat.le_trans z7 h4.size⟩
            · exact h311 (by simpa using hd) (by simpa using hd2)
            · exact .inr (h11 (by simpa using hd)).2.2
            · match j, hDj with
              | 0, _ => rfl
              | 1, _ => rfl
              | 2, _ => rfl
              | 3, _ => rfl
              | 4, _ => rfl
              | 5, _ => rfl
              | 6, _ => rfl
              | 7, hDj => exact absurd hDj (by rw [n7]; exact Bool.false_ne_true)
              | 8, _ => rfl
              | 9, _ => rfl
              | 10, _ => rfl
              | 11, _ => rfl
              | 12, _ => rfl
              | 13, hDj => exact absurd hDj (by rw [n13]; exact Bool.false_ne_true)
              | 14, _ => rfl
              | n + 15, _ => rfl
        | 8, ho, hD, hpre =>
          cases (show some _ = some oo' from ho)
          have e6 := ev_nfK ((hO 6 (notDstK (by kernel_rfl))).trans rfl)
          refine runsTo_mono11 (Q := fun uu w1 => w1 = x.now ∧ uu = (.pointer (some ⟨b6, 0, none⟩) : Value)) ?_ (fun uu w1 ⟨h1, h2⟩ => ⟨c, by subst h1; exact ⟨x.grows, by simpa using h3, by simpa using h7, by simpa using h11, by simpa using h311, by simpa using h711⟩, fun _ _ _ => rfl, .inr h2⟩)
          clear h3 h7 h11 h311 h711
          go_simp
          all_goals exact ⟨rfl, rfl⟩
        | 9, ho, hD, hpre =>
          cases (show some _ = some oo' from ho)
          have e42 := ev_nfK (hV 8 42 rfl)
          refine runsTo_mono11 (Q := fun uu w1 => w1 = x.now ∧ uu = (.slice (some ⟨bo, oo, none⟩) N co : Value)) ?_ (fun uu w1 ⟨h1, h2⟩ => ⟨c, by subst h1; exact ⟨x.grows, by simpa using h3, by simpa using h7, by simpa using h11, by simpa using h311, by simpa using h711⟩, fun _ _ _ => rfl, .inr h2⟩)
          clear h3 h7 h11 h311 h711
          go_simp
          all_goals exact ⟨rfl, rfl⟩
        | 10, ho, hD, hpre =>
          cases (show some _ = some oo' from ho)
          have e43 := ev_nfK (hV 9 43 rfl)
          refine runsTo_mono11 (Q := fun uu w1 => w1 = x.now ∧ uu = (.int .i64 (N : Int) : Value)) ?_ (fun uu w1 ⟨h1, h2⟩ => ⟨c, by subst h1; exact ⟨x.grows, by simpa using h3, by simpa using h7, by simpa using h11, by simpa using h311, by simpa using h711⟩, fun _ _ _ => rfl, .inr h2⟩)
          clear h3 h7 h11 h311 h711
          go_simp
          all_goals exact ⟨rfl, rfl⟩
        | 11, ho, hD, hpre =>
          cases (show some _ = some oo' from ho)
          have e44 := ev_nfK (hV 10 44 rfl)
          have n11 : D 11 = false := hD
          have n14 : D 14 = false := by
            cases hd : D 14 with
            | false => rfl
            | true => exact absurd (hcl 14 11 hd (by kernel_rfl)) (by rw [n11]; exact Bool.false_ne_true)
          refine runsTo_mono11 (Q := fun uu w1 => Grows x.now w1 ∧ ∃ b, uu = .pointer (some ⟨b, 0, none⟩) ∧ HpAt w1 (New x.now w1) b ⟨[], List.replicate N (-1)⟩) ?_ (fun uu w1 ⟨h4, b, h1, h2⟩ => ⟨(c.1, c.2.1, c.2.2.1, b, x.now.heap.size, w1.heap.size), ⟨x.grows.trans h4, fun hd => ?_, fun hd => ?_, fun _ => ⟨h2, x.size, Nat.le_refl _⟩, fun hd _ => ?_, fun hd _ => ?_⟩, fun j _ hDj => ?_, .inr h1⟩)
          · go_simp
            refine (CH.out _).mono ?_
            rintro e w2 ⟨b, T, rfl, z0, z1, z2, _, hg⟩
            rw [rep_of z1 z2] at z0
            exact ⟨_, rfl, hg, b, rfl, z0⟩
          · obtain ⟨z5, z6, z7, z8, z9⟩ := h3 (by simpa using hd)
            exact ⟨z5.grow h4, z6, z7, Nat.lt_of_lt_of_le z8 h4.size, Nat.lt_of_lt_of_le z9 h4.size⟩
          · obtain ⟨z5, z6, z7⟩ := h7 (by simpa using hd)
            exact ⟨z5.grow h4, z6, Nat.lt_of_lt_of_le z7 h4.size⟩
          · obtain ⟨z5, z6, z7, z8, z9⟩ := h3 (by simpa using hd)
            exact ⟨.inl z8, .inl z9⟩
          · exact .inl (h7 (by simpa using hd)).2.2
          · match j, hDj with
            | 0, _ => rfl
            | 1, _ => rfl
            | 2, _ => rfl
            | 3, _ => rfl
            | 4, _ => rfl
            | 5, _ => rfl
            | 6, _ => rfl
            | 7, _ => rfl
            | 8, _ => rfl
            | 9, _ => rfl
            | 10, _ => rfl
            | 11, hDj => exact absurd hDj (by rw [n11]; exact Bool.false_ne_true)
            | 12, _ => rfl
            | 13, _ => rfl
            | 14, hDj => exact absurd hDj (by rw [n14]; exact Bool.false_ne_true)
            | n + 15, _ => rfl
        | 12, ho, hD, hpre =>
          cases (show some _ = some oo' from ho)
          have e37 := ev_nfK (hV 3 37 rfl)
          refine runsTo_mono11 (Q := fun uu w1 => w1 = x.now ∧ uu = (.pointer (some ⟨c.1, 0, none⟩) : Value)) ?_ (fun uu w1 ⟨h1, h2⟩ => ⟨c, by subst h1; exact ⟨x.grows, by simpa using h3, by simpa using h7, by simpa using h11, by simpa using h311, by simpa using h711⟩, fun _ _ _ => rfl, .inr h2⟩)
          clear h3 h7 h11 h311 h711
          go_simp
          all_goals exact ⟨rfl, rfl⟩
        | 13, ho, hD, hpre =>
          cases (show some _ = some oo' from ho)
          have e41 := ev_nfK (hV 7 41 rfl)
          refine runsTo_mono11 (Q := fun uu w1 => w1 = x.now ∧ uu = (.slice (some ⟨c.2.2.1, 0, none⟩) N N : Value)) ?_ (fun uu w1 ⟨h1, h2⟩ => ⟨c, by subst h1; exact ⟨x.grows, by simpa using h3, by simpa using h7, by simpa using h11, by simpa using h311, by simpa using h711⟩, fun _ _ _ => rfl, .inr h2⟩)
          clear h3 h7 h11 h311 h711
          go_simp
          all_goals exact ⟨rfl, rfl⟩
        | 14, ho, hD, hpre =>
          cases (show some _ = some oo' from ho)
          have e45 := ev_nfK (hV 11 45 rfl)
          refine runsTo_mono11 (Q := fun uu w1 => w1 = x.now ∧ uu = (.pointer (some ⟨c.2.2.2.1, 0, none⟩) : Value)) ?_ (fun uu w1 ⟨h1, h2⟩ => ⟨c, by subst h1; exact ⟨x.grows, by simpa using h3, by simpa using h7, by simpa using h11, by simpa using h311, by simpa using h711⟩, fun _ _ _ => rfl, .inr h2⟩)
          clear h3 h7 h11 h311 h711
          go_simp
          all_goals exact ⟨rfl, rfl⟩
        | n + 15, ho, hD, hpre => cases ho
      case he =>
        rintro ⟨bf, gf, bs, bh, n1, n2⟩ w1 ⟨hgx, h3, h7, h11, h311, h711⟩
        obtain ⟨f1, f2, f3, f4, f5⟩ := h3 rfl
        obtain ⟨k1, k2, k3⟩ := h7 rfl
        obtain ⟨p1, p2, p3⟩ := h11 rfl
        obtain ⟨q1, q2⟩ := h311 rfl rfl
        have q3 := h711 rfl rfl
        simp only at f1 f2 f3 f4 f5 k1 k2 k3 p1 p2 p3 q1 q2 q3
        clear h3 h7 h11 h311 h711
        subst hVV
        simp only [putAll, dstOf, List.length_cons, List.length_nil, Nat.reduceAdd, List.getElem?_cons_zero, List.getElem?_cons_succ, Option.bind_some, List.getD_cons_zero, List.getD_cons_succ, Act.put, List.setIfInBounds_toArray, List.set_cons_zero, List.set_cons_succ]
        have hy1 := y1.size
        have HC0 : Hid (WsC y1.now bf gf bs bh ⟨List.replicate N (0, 0), ⟨[], List.replicate N (-1)⟩, List.replicate N 0⟩ w1) := hide ⟨⟨⟨w1, hgx⟩, rfl⟩, ⟨0, f1⟩, k1, ⟨_, p1, fun k hk => ⟨by omega, by omega, by omega, by omega, by omega⟩⟩, f2, f3, k2, k1.ne f1.row (by decide), Ne.symm (f1.cells.ne k1 (by decide))⟩
        clear f1 f2 f3 f4 f5 k1 k2 k3 p1 p2 p3 q1 q2 q3 mk CS CH
        obtain ⟨z1, rfl⟩ := hgx.later
        obtain ⟨m0, hst⟩ := HC0.out.stamp
        go_wp2_with (go_at_call 124; refine (stPut bf gf _ m0 u 0 _ hst (by simp; omega)).mono ?_; rintro e w2 ⟨rfl, hs2, ht2⟩; have HC1 := hide (HC0.out.stamped hs2 ht2); clear hs2 ht2 hst HC0)
        obtain ⟨z2, rfl⟩ := HC1.out.later
        obtain ⟨S2, hp2, hS2⟩ := HC1.out.heap
        go_wp2_with (go_at_call 114; refine (hpPut bh N _ u 0 S2 _ hp2 (fun k hk => (hS2 k hk).2.1) ⟨by simp, fun i hi => by simp at hi⟩ hu (.inl (by simp [gz, List.getD_eq_getElem?_getD, hu])) (by simp)).mono ?_; rintro e w3 ⟨rfl, hp3, ht3⟩; have HC2 := hide (HC1.out.put hS2 hp3 ht3); clear hp3 ht3 hp2 hS2 HC1)
        have HI0 := hide (ws0_inv (O := O) (G := G) (s := u) (by rw [← HN.out]; exact hu))
        have HC3 : Hid (WsC y1.now bf gf bs bh (ws0 N u) w3) := hide HC2.out
        rw [← HN.out] at HI0
        clear HC2
        obtain ⟨z3, rfl⟩ := HC3.out.later
        have hmx : max (settles : Int) 0 = (settles : Int) := by omega
        go_step3
        go_wp2_with fail
        go_loopw [54] (fun i wr => ∃ k : Nat, k ≤ settles ∧ i = .int .i64 (k : Int) ∧ ∃ st, Hid (r = wsRun O G t below hops (settles - k) st) ∧ Hid (WInv O G u st ∧ KbOk k st) ∧ WsC y1.now bf gf bs bh st wr) (fun i _ => settles - (Go.RowKit.intOf i).toNat)
        case atStart => exact ⟨0, by omega, by go_num, _, HF, hide ⟨HI0.out, 0, Nat.zero_le _, fun x => by unfold ws0 gn; rw [List.getD_eq_getElem?_getD, List.getElem?_replicate]; split <;> simp⟩, HC3.out⟩
        case round =>
          obtain ⟨k, hk, rfl, st, HR, HIK, hc⟩ := hrel
          have HC := hide hc
          have HI := hide HIK.out.1
          obtain ⟨B, hBk, hkb⟩ := HIK.out.2
          have HBK := hide hBk
          have HKB := hide hkb
          clear hc HC3 HI0 HF HIK hBk hkb
          obtain ⟨z, rfl⟩ := HC.out.later
          by_cases hlt : k < settles
          · obtain ⟨n, hn⟩ : ∃ n, settles - k = n + 1 := ⟨settles - k - 1, by omega⟩
            have HN1 := hide (show settles - (k + 1) = n from by omega)
            rw [hn] at HR
            clear hn
            obtain ⟨S2, hp2, hS2⟩ := HC.out.heap
            have hr1 := HR.out
            unfold wsRun at hr1
            by_cases h0 : st.s.L.length = 0
            · rw [if_pos h0] at hr1
              subst hr1
              clear HR
              go_wp2_with (go_at_call 116; refine (hpPopNo bh st.s S2 _ hp2 h0).mono ?_; rintro e w2 ⟨rfl, hg⟩; obtain ⟨z4, rfl⟩ := hg.later; clear hg)
              rw [Exit.noGoto_ret]
              refine bodyPost_ret (v := .tuple #[.int .u64 0, .bool false]) (by simp (maxDischargeDepth := 6) [results, Try.results78, go_sem, *]) rfl ⟨rfl, y1.grows.trans GG⟩
            · rw [if_neg h0] at hr1
              have hL : 0 < st.s.L.length := by omega
              have hlk := HI.out.lk
              have hat := hlk.at_ 0 hL
              have hsm := hlk.small
              have CP := hide (hpPop bh N st.s S2 0 z.now hp2 (fun k hk => (hS2 k hk).2.1) (by rw [HN.out]; exact hlk.isIn) hL hat.2 hL (by rw [← HN.out] at hsm; omega))
              have HPOP := hide (fun (w2 : World) (hp : HpAt w2 S2 bh (st.s.drop (gi2 st.s.L 0).1)) (ht : Touch S2 z.now w2) => show WsC y1.now bf gf bs bh st.pop w2 from HC.out.popped hS2 hp ht)
              have HIP := hide (HI.out.pop hL)
              have HTW := hide (HI.out.top hL)
              have hvN : (gi2 st.s.L 0).1 < N := by rw [HN.out]; exact hat.1
              unfold GivePop at CP
              have hkl := HIP.out.klen
              rw [← HN.out] at hkl
              have e1 : st.pop.k = st.k := rfl
              rw [← e1] at HKB
              clear hlk hat hsm hp2 HI HR HC hS2
              generalize st.s.drop (gi2 st.s.L 0).1 = s' at *
              generalize hpop : st.pop = sp at *
              clear hpop
              generalize hgi : gi2 st.s.L 0 = pv at *
              obtain ⟨v, d⟩ := pv
              simp only at hr1 CP HTW hvN
              rw [← e1] at hr1
              clear h0 hgi e1
              by_cases hbl : below ≤ d
              · rw [if_pos hbl] at hr1
                subst hr1
                go_wp2_with (go_at_call 116; refine (CP.out).mono ?_; rintro e w2 ⟨rfl, hp, ht⟩; have HC4 := hide (HPOP.out _ hp ht); clear hp ht; obtain ⟨z4, rfl⟩ := HC4.out.later)
                rw [Exit.noGoto_ret]
                refine bodyPost_ret (v := .tuple #[.int .u64 0, .bool false]) (by simp (maxDischargeDepth := 6) [results, Try.results78, go_sem, *]) rfl ⟨rfl, y1.grows.trans z4.grows⟩
              · rw [if_neg hbl] at hr1
                have hdb : d < below := by omega
                have hdb2 : d ≤ 2305843009213693952 := by omega
                by_cases hvt : v = t
                · rw [if_pos hvt] at hr1
                  subst hr1
                  subst hvt
                  go_wp2_with (go_at_call 116; refine (CP.out).mono ?_; rintro e w2 ⟨rfl, hp, ht⟩; have HC4 := hide (HPOP.out _ hp ht); clear hp ht; obtain ⟨z4, rfl⟩ := HC4.out.later)
                  rw [Exit.noGoto_ret]
                  refine bodyPost_ret (v := .tuple #[.int .u64 (d : Int), .bool true]) (by simp (maxDischargeDepth := 6) [results, Try.results78, go_sem, *]) rfl ⟨rfl, y1.grows.trans z4.grows⟩
                · rw [if_neg hvt] at hr1
                  have hvt2 : ((v : Int) == (t : Int)) = false := beq_eq_false_iff_ne.2 (by omega)
                  have hnb : ¬ (below : Int) ≤ (d : Int) := by omega
                  go_upto_region 12 with (go_at_call 116; refine (CP.out).mono ?_; rintro e w2 ⟨rfl, hp, ht⟩; have HC4 := hide (HPOP.out _ hp ht); clear hp ht; obtain ⟨z4, rfl⟩ := HC4.out.later)
                  have ks := HC4.out.steps.mine v (nv_at (by omega))
                  by_cases hst : hops ≤ gn sp.k v
                  · rw [if_pos hst] at hr1
                    have HR2 := hide hr1
                    have hsti : (hops : Int) ≤ (gn sp.k v : Int) := by omega
                    clear hr1 hst
                    go_wp2_with fail
                    go_roundw
                    case measure => simp [Go.RowKit.intOf]; omega
                    case rel => exact ⟨k + 1, by omega, by go_num, sp, by rw [HN1.out]; exact HR2, hide ⟨HIP.out, B, Nat.le_trans HBK.out (Nat.mul_le_mul_right _ (Nat.le_succ k)), HKB.out⟩, HC4.out⟩
                  · rw [if_neg hst] at hr1
                    have HR2 := hide hr1
                    have hsti : ¬ (hops : Int) ≤ (gn sp.k v : Int) := by omega
                    clear hr1 hst
                    obtain ⟨bo', oo', e1, Al, cl, hrow, hrl⟩ := (HNET.out.grows y1.grows).row (x := v) (by rw [← HN.out]; exact hvN)
                    injection e1 with e1
                    injection e1 with e1 e2
                    subst e1 e2
                    have HRL := hide hrl
                    have HIN := hide (fun a (ha : a ∈ ga O v) => show a.1 < N ∧ a.2 ≤ 1152921504606846976 from ⟨by rw [HN.out]; exact hin v a ha, hW v a ha⟩)
                    have HIQ := hide (fun q => HIP.out.arcs HTW.out ((ga O v).take q) (fun a ha => ⟨List.mem_of_mem_take ha, hin v a (List.mem_of_mem_take ha)⟩))
                    have HKQ := hide (fun q (hq : q ≤ (ga O v).length) x => show gn (wsArcs O G v d sp ((ga O v).take q)).k x ≤ B + q from by have := wsArcs_kb (O := O) (G := G) (v := v) (d := d) ((ga O v).take q) HKB.out x; rw [List.length_take] at this; omega)
                    clear hrl
                    have hllen := hlen v
                    clear hlen
                    generalize hlv : ga O v = l at *
                    have HLV := hide hlv
                    clear hlv
                    go_wp2_with fail
                    go_loopw [88] (fun j wr => ∃ q : Nat, q ≤ l.length ∧ j = .int .i64 (q : Int) ∧ WsC y1.now bf gf bs bh (wsArcs O G v d sp (l.take q)) wr) (fun j _ => l.length - (Go.RowKit.intOf j).toNat)
                    case atStart => exact ⟨0, by omega, by go_num, HC4.out⟩
                    case round =>
                      obtain ⟨q, hq, rfl, hcq⟩ := hrel
                      have HCQ := hide hcq
                      clear hcq
                      obtain ⟨zq, rfl⟩ := HCQ.out.later
                      by_cases hql : q < l.length
                      · have hmem : gi2 l q ∈ l := by
                          unfold gi2
                          rw [List.getD_eq_getElem?_getD, List.getElem?_eq_getElem hql]
                          exact List.getElem_mem hql
                        obtain ⟨i1, i2⟩ := HIN.out _ hmem
                        have hiq := HIQ.out q
                        have hst := hiq.len
                        have hsk := hiq.klen
                        have hslk := hiq.lk
                        rw [← HN.out] at hst hsk
                        have e3 : l.take (q + 1) = l.take q ++ [gi2 l q] := by
                          rw [List.take_succ_eq_append_getElem hql]
                          simp [gi2, hql]
                        have HNX := hide (show wsArcs O G v d sp (l.take (q + 1)) = wsArc G v d (wsArcs O G v d sp (l.take q)) (gi2 l q) from by rw [e3, wsArcs_snoc])
                        obtain ⟨gA, oA, rfl, hcA⟩ := (HRL.out.grows zq.grows).itemH (by omega) rfl
                        obtain ⟨c1, c2⟩ := hcA q hql
                        have hgo := HGG.out (gi2 l q).1 (by rw [← HN.out]; exact i1)
                        have hHQ := HCQ.out
                        obtain ⟨Sq, hpq, hSq⟩ := hHQ.heap
                        have HKX := hide (HKQ.out q hq)
                        clear hcA hiq e3 hmem
                        generalize wsArcs O G v d sp (l.take q) = sq at *
                        generalize gi2 l q = ar at *
                        obtain ⟨at1, aw1⟩ := ar
                        simp only at i1 i2 c1 c2 hgo
                        go_upto_region 16 with fail
                        have hg21 : Grows zq.now (zq.now.alloc (.cells #[.int .i64 (at1 : Int), .int .u64 (aw1 : Int)] 40)) := (Grows.refl _).new _
                        have a21 : Arr (zq.now.alloc (.cells #[.int .i64 (at1 : Int), .int .u64 (aw1 : Int)] 40)) zq.now.heap.size 40 [.int .i64 (at1 : Int), .int .u64 (aw1 : Int)] := Arr.make _ _ _
                        have HCA := hide (hHQ.grow hg21)
                        have hb21 : bf < zq.now.heap.size ∧ gf < zq.now.heap.size ∧ bs < zq.now.heap.size := by
                          obtain ⟨m, hs⟩ := hHQ.stamp
                          exact ⟨hs.row.lt, hs.cells.lt, hHQ.steps.lt⟩
                        have hpq6 := hide (hpq.grow hg21)
                        have hsz6 := hg21.size
                        have HSQ := hide (fun k (hk : Sq k) => show y1.now.heap.size ≤ k ∧ k < zq.now.heap.size ∧ k ≠ bf ∧ k ≠ gf ∧ k ≠ bs from hSq k hk)
                        have HZQ := hide hsz6
                        clear hHQ HCQ hpq hSq hsz6
                        generalize zq.now.alloc (.cells #[.int .i64 (at1 : Int), .int .u64 (aw1 : Int)] 40) = W6 at *
                        generalize zq.now.heap.size = b21 at *
                        clear hg21 c1 c2
                        obtain ⟨z6, rfl⟩ := HCA.out.later
                        cases hga : bb G at1 with
                        | true =>
                          rw [hga] at hgo
                          have HNY := hide (show wsArc G v d sq (at1, aw1) = sq from by unfold wsArc; rw [if_neg (fun h => by rw [hga] at h; cases h.1)])
                          clear hga
                          go_wp2_with fail
                          go_roundw
                          case measure => simp [Go.RowKit.intOf]; omega
                          case rel => exact ⟨q + 1, by omega, by go_num, by rw [HNX.out, HNY.out]; exact HCA.out⟩
                        | false =>
                          rw [hga] at hgo
                          obtain ⟨f, hf⟩ : ∃ f : Nat, f = d + aw1 := ⟨_, rfl⟩
                          have hwr : IntKind.u64.wrap ((d : Int) + (aw1 : Int)) = (f : Int) := by rw [hf]; exact IntWalk.u64_in _ (by omega)
                          obtain ⟨m6, hst6⟩ := HCA.out.stamp
                          have CL := hide (stLeast bf gf sq.L m6 at1 f z6.now hst6 (by rw [hst]; exact i1))
                          unfold GiveLeast at CL
                          have HWA := hide (show wsArc G v d sq (at1, aw1) = if lessB (stD sq.L at1) f = true then ⟨sq.L.set at1 (f, 1), (sq.s.put at1 f).1, sq.k.set at1 (gn sq.k v + 1)⟩ else sq from by unfold wsArc; simp only [hga, ← hf, true_and])
                          have HFF := hide hf
                          clear hga hst6 hf
                          cases hle : lessB (stD sq.L at1) f with
                          | false =>
                            rw [hle] at CL HWA
                            clear hle
                            go_wp2_with (go_at_call 125; refine (CL.out).mono ?_; rintro e w2 ⟨rfl, hs2, ht2⟩; have HC7 := hide (HCA.out.stamped hs2 ht2); clear hs2 ht2; obtain ⟨z7, rfl⟩ := HC7.out.later)
                            go_roundw
                            case measure => simp [Go.RowKit.intOf]; omega
                            case rel => exact ⟨q + 1, by omega, by go_num, by rw [HNX.out, HWA.out, if_neg Bool.false_ne_true]; exact HC7.out⟩
                          | true =>
                            rw [hle] at CL HWA
                            rw [if_pos rfl] at HWA
                            clear hle
                            go_upto_region 17 with (go_at_call 125; refine (CL.out).mono ?_; rintro e w2 ⟨rfl, hs2, ht2⟩; have HC7 := hide (HCA.out.stamped hs2 ht2); have a27 := a21.touch ht2 (by omega); have HT7 := hide ht2; clear hs2 ht2; obtain ⟨z7, rfl⟩ := HC7.out.later)
                            have hp7 : HpAt z7.now Sq bh sq.s := hpq6.out.touch HT7.out (fun k hk e => by rcases e with e | e; exact (HSQ.out k hk).2.2.1 e; exact (HSQ.out k hk).2.2.2.1 e)
                            have hS7 : ∀ k, Sq k → y1.now.heap.size ≤ k ∧ k < z7.now.heap.size ∧ k ≠ bf ∧ k ≠ gf ∧ k ≠ bs := fun k hk => by
                              have h1 := HSQ.out k hk
                              have h2 := HT7.out.size
                              have h3 := HZQ.out
                              exact ⟨h1.1, by omega, h1.2.2⟩
                            have hok := Lk.hok hslk (by rw [← HN.out]; omega)
                            have CPP := hide (hpPut bh N sq.s at1 f Sq z7.now hp7 (fun k hk => (hS7 k hk).2.1) (by rw [HN.out]; exact hslk.isIn) i1 (hok.1 at1 (by rw [← HN.out]; exact i1)) hok.2)
                            unfold GivePut at CPP
                            have HC8F := hide (fun (w3 : World) (hp : HpAt w3 (fun k => Sq k ∨ New z7.now w3 k) bh (sq.s.put at1 f).1) (ht : Touch Sq z7.now w3) => show WsC y1.now bf gf bs bh ⟨sq.L.set at1 (f, 1), (sq.s.put at1 f).1, sq.k⟩ w3 from HC7.out.put hS7 hp ht)
                            have HB21 := hide (show ¬ Sq b21 from fun e => by have := (HSQ.out _ e).2.1; omega)
                            clear hp7 hS7 hok HT7 hpq6
                            generalize (sq.s.put at1 f).2 = rb at *
                            go_upto_region 18 with (go_at_call 114; refine (CPP.out).mono ?_; rintro e w3 ⟨rfl, hp, ht⟩; have HC8 := hide (HC8F.out _ hp ht); have a28 := a27.touch ht HB21.out; clear hp ht; obtain ⟨z8, rfl⟩ := HC8.out.later)
                            have ks8 := HC8.out.steps.mine v (nv_at (by show v < sq.k.length; omega))
                            have ks9 := HC8.out.steps.mine at1 (nv_at (by show at1 < sq.k.length; omega))
                            have hkx := HKX.out v
                            have hbk2 : B ≤ 1000 * 1000000 := Nat.le_trans HBK.out (Nat.mul_le_mul_right _ (by omega))
                            have hkx2 : (gn sq.k v : Int) ≤ 4000000000 := by omega
                            clear hbk2 hkx
                            (refine wp_region_tail1 9 (by kernel_rfl) (by kernel_rfl) ?_; simp only [List.take_succ_cons, List.take_zero, List.drop_succ_cons, List.drop_zero]; (repeat' (first | (refine gLex_val0 rfl (by kernel_rfl) (fun K hK => ?_); (go_simp; (try (simp only [↓IntWalk.iteOmega]; try go_simp)); (try simp (disch := omega) only [IntWalk.i64_in]); (try simp (disch := omega) only [IntWalk.u64_in]); first | (refine hK _ ?_; clear hK K) | (apply Exists.intro; refine ⟨fun x => ?_, hK _ ?_⟩; (first | fail); clear hK K))) | (refine gLex_undef rfl rfl rfl (by kernel_rfl) (fun K hK => ?_); go_simp; refine hK _ ?_; clear hK K) | (refine gLex_ask rfl rfl rfl ?_; first | (apply gAsk_yes; kernel_rfl; intro K hK; (go_simp; (try (simp only [↓IntWalk.iteOmega]; try go_simp)); (try simp (disch := omega) only [IntWalk.i64_in]); (try simp (disch := omega) only [IntWalk.u64_in]); first | (refine hK _ ?_; clear hK K) | (apply Exists.intro; refine ⟨fun x => ?_, hK _ ?_⟩; (first | fail); clear hK K))) | ((first | apply gAsk_no1 | apply gAsk_no2); kernel_rfl; intro K hK; simp [go_sem]; refine hK _ ?_; clear hK K)))); refine gLex_endT (fun x => ?_))
                            have HC9 := hide ((HC8.out.grow x.grows).stepped at1 (gn sq.k v + 1))
                            go_wp2_with fail
                            go_roundw
                            case measure => simp [Go.RowKit.intOf]; omega
                            case rel => exact ⟨q + 1, by omega, by go_num, by rw [HNX.out, HWA.out]; simpa using HC9.out⟩
                      · obtain rfl : l.length = q := by omega
                        rw [List.take_length] at HCQ
                        have HIE := hide (show WInv O G u (wsArcs O G v d sp l) from by have := HIQ.out l.length; rwa [List.take_length] at this)
                        have HKE := hide (show KbOk (k + 1) (wsArcs O G v d sp l) from ⟨B + l.length, by rw [Nat.succ_mul]; exact Nat.add_le_add HBK.out hllen, fun x => by have := HKQ.out l.length (Nat.le_refl _) x; rwa [List.take_length] at this⟩)
                        go_wp2_with fail
                        go_roundw
                        case measure => simp [Go.RowKit.intOf]; omega
                        case rel => exact ⟨k + 1, by omega, by go_num, _, by rw [HN1.out]; exact HR2, hide ⟨HIE.out, HKE.out⟩, HCQ.out⟩
          · obtain rfl : k = settles := by omega
            have hr1 := HR.out
            rw [Nat.sub_self] at hr1
            have hr2 : r = none := hr1
            subst hr2
            clear hr1 HR
            go_wp2_with fail
            rw [Exit.noGoto_ret]
            refine bodyPost_ret (v := .tuple #[.int .u64 0, .bool false]) (by simp (maxDischargeDepth := 6) [results, Try.results78, go_sem, *]) rfl ⟨rfl, y1.grows.trans z.grows⟩
end Go.Proofs.Ytgplpgldhoelcaa

namespace Go.Proofs.Ytgplpgldhoelcaa
open Go Go.RowKit
attribute [local go_sem] Oper.semAt_some
theorem elemBool11 : Elem 23 4 1 := by
  have h : (Try.prog.info? 4).map (fun i => (i.zero, i.size, i.bytes)) = some (some (.bool false), 1, 1) := by kernel_rfl
  obtain ⟨i, hi, hz, hs, hb⟩ := info_parts h
  exact ⟨Try.underlying23, ⟨i, _, 1, hi, hz, hs, hb, rfl, by omega⟩, by omega⟩
theorem elemArc : Elem 28 40 2 := by
  have h : (Try.prog.info? 40).map (fun i => (i.zero, i.size, i.bytes)) = some (some (.agg #[.int .i64 0, .int .u64 0]), 2, 16) := by kernel_rfl
  obtain ⟨i, hi, hz, hs, hb⟩ := info_parts h
  exact ⟨Try.underlying28, ⟨i, _, 16, hi, hz, hs, hb, rfl, by omega⟩, by omega⟩
set_option maxRecDepth 20000 in
set_option maxHeartbeats 2000000 in
theorem cloneBl (A : Option Addr) (n c : Nat) (E : List Bool) (w : World) (h : Rd w A 1 n (E.map .bool)) (hn : n ≤ 1000000) :
    Calls Try.prog 77 #[.slice A n c] w fun e w' => ∃ A' c', e = .returned (.slice A' n c') ∧ Own w' w.heap.size 4 1 A' n c' (E.map .bool) ∧ Grows w w' := by
  have hl : E.length = n := by simpa using h.len
  cases A with
  | none =>
    have hn0 : n = 0 := by
      rcases Nat.eq_zero_or_pos n with h0 | h0
      · exact h0
      · obtain ⟨_, _, e, _⟩ := h.2 h0 (by omega); cases e
    subst hn0
    have hE : E = [] := List.eq_nil_of_length_eq_zero hl
    subst hE
    clear h hl
    have hnil := fun (w : World) (a : Option Addr) (n c n' c' : Nat) => Lib.run_eql_slice_nil (P := Try.prog) w 23 4 a n c n' c' Try.underlying23
    go_enter Try.func77, Try.ntmps77
    go_wp2
    go_ret
    exact ⟨none, 0, rfl, Own.nil _ _ _ _, GG⟩
  | some ad =>
    have HR := hide h
    have HE1 := hide (show ∀ u ∈ E.map Value.bool, u.oneCell' = true from fun u hu => by
      obtain ⟨x, _, rfl⟩ := List.mem_map.1 hu
      rfl)
    clear h hl
    have hnil := fun (w : World) (a : Option Addr) (n c n' c' : Nat) => Lib.run_eql_slice_nil (P := Try.prog) w 23 4 a n c n' c' Try.underlying23
    generalize E.map Value.bool = xs at *
    go_enter Try.func77, Try.ntmps77
    go_wp2_with (at_builtin; refine wp_appAll elemBool11 rfl _ _ rfl w GG 0 0 _ [] rfl (Own.empty _ _ _ _ (Nat.le_refl _)) ad n c _ rfl (HR.out.grows GG) HE1.out (by omega) ?_; intro A3 c3 y3 hown3; have HO3 := hide hown3; clear hown3)
    go_ret
    exact ⟨A3, c3, by first | rfl | (simp; done) | (rw [Nat.zero_add]; rfl), by have := HO3.out; rwa [Nat.zero_add, List.nil_append] at this, GG⟩
theorem Own.beside {w w' : World} {B B2 n n2 c c2 size size2 : Nat} {e t : TypeId} {A A2 : Option Addr} {xs ys : List Value} (h : Own w B e size A n c xs) (k : Own w B2 t size2 A2 n2 c2 ys) (hne : e ≠ t) (hg : w.grownBy w' (Value.slice A2 n2 c2).ownBlock) : Own w' B e size A n c xs := by
  refine World.ownsRow.kept h hg ?_
  rcases h.2 with ⟨h1, _⟩ | ⟨g, cap, cur, h1, h2, h3, _⟩
  · injection h1 with h1
    subst h1
    exact .inl (by simp [Value.ownBlock])
  · injection h1 with h1
    subst h1
    refine .inr fun e' => ?_
    rcases k.2 with ⟨k1, _⟩ | ⟨g2, cap2, cur2, k1, k2, k3, _⟩
    · injection k1 with k1
      subst k1
      simp [Value.ownBlock] at e'
    · injection k1 with k1
      subst k1
      simp [Value.ownBlock] at e'
      subst e'
      rw [h3] at k3
      injection k3 with k3
      injection k3 with _ k3
      exact hne k3
section
variable {w : World} {e : TypeId} {ops : Array Oper} {rest : List Oper} {o : Oper} {a : Act} {Q : Exit → Act → World → Prop}
theorem wp_app2K {t : TypeId} (E : Elem t e 2) (hgd : o.guard = none) (s x : Operand) (ho : o.op = .call { callee := .builtin .append, args := #[s, x], argTypes := #[t, t] })
    (w0 : World) (hw0 : Grows w0 w) (n c : Nat) (A : Option Addr) (xs : List Value) (hs : a.eval s = .slice A n c) (hown : Own w w0.heap.size e 2 A n c xs) (g c' : Nat) (v v2 : Value) (hx : a.eval x = .slice (some ⟨g, 0, none⟩) 1 c')
    (hv : Holds w ⟨g, 0, none⟩ v) (hv2 : Holds w ⟨g, 1, none⟩ v2) (h1 : v.oneCell' = true) (h2 : v2.oneCell' = true) (hnm : n + 1 ≤ 1000000000000)
    (h : ∀ A' c'' (y : Later w0), Own y.now w0.heap.size e 2 A' (n + 1) c'' (xs ++ [v, v2]) → w.grownBy y.now (Value.slice A n c).ownBlock → wpList Try.prog ops Q rest (a.put o.dst (.slice A' (n + 1) c'')) y.now) :
    wpList Try.prog ops Q (o :: rest) a w := by
  obtain ⟨i, z, bytes, hi, hz, hsz, hby, hzs, hb64⟩ := E.info
  refine wpList_append_own w hgd s x t ho w0.heap.size e i z 2 bytes E.under hi hz hsz hby hzs E.pos (.slice A n c) n xs hs hown ⟨g, 0, none⟩ 1 c' [v, v2] hx rfl (fun j u hu => ?_) (by intro u hu; simp at hu; rcases hu with rfl | rfl; exact h1; exact h2) (by unfold maxLen; omega) ?_ hw0.size ?_
  · match j, hu with
    | 0, hu =>
      simp at hu
      subst hu
      simpa [Addr.add] using hv.cell
    | 1, hu =>
      simp at hu
      subst hu
      simpa [Addr.add] using hv2.cell
    | n + 2, hu => simp at hu
  · exact Nat.le_trans (Nat.mul_le_mul hnm hb64) (by omega)
  · intro v' w' hown' hgr _
    obtain ⟨A', c'', rfl⟩ := own_form hown'
    have hgw : Grows w0 w' := by
      refine ⟨hgr.os.trans hw0.os, hgr.tape.trans hw0.tape, hgr.output.trans hw0.output, Nat.le_trans hw0.size hgr.size, fun k hk => ?_⟩
      refine (hgr.block k (Nat.lt_of_lt_of_le hk hw0.size) fun e => ?_).trans (hw0.block k hk)
      have := World.ownsRow.lt hown k e.symm
      omega
    obtain ⟨y, rfl⟩ := hgw.later
    exact h A' c'' y hown' hgr
end
theorem kpW_len {O : NetO} {G : List Bool} {hops settles u a w : Nat} {fr : LM} {acc : List Kp} : (kpW O G hops settles fr u a w acc).length ≤ acc.length + 1 := by
  unfold kpW
  split
  · omega
  · split
    · omega
    · split
      · omega
      · simp
theorem kpIn_len {O : NetO} {G : List Bool} {hops settles u a : Nat} {fr : LM} {acc : List Kp} (n : Nat) : (kpIn O G hops settles fr u a n acc).length ≤ acc.length + n := by
  induction n with
  | zero => exact Nat.le_refl _
  | succ n ih => exact Nat.le_trans kpW_len (by omega)
theorem kpAll_len {O : NetO} {G : List Bool} {hops settles N : Nat} {tf : LM × LM} (n : Nat) : (kpAll O G hops settles tf N n).length ≤ n * N := by
  induction n with
  | zero => exact Nat.zero_le _
  | succ n ih =>
    unfold kpAll
    rw [Nat.succ_mul]
    split
    · omega
    · exact Nat.le_trans (kpIn_len N) (by omega)
def kpI (K : List Kp) : List Itm := K.map fun k => (k.2.1, k.2.2)
def kpU (K : List Kp) : List Int := K.map fun k => (k.1 : Int)
end Go.Proofs.Ytgplpgldhoelcaa

