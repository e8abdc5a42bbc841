/- Contract: what all rows weigh together, by the program. -/
import Derived.Test.YtpnncadglhlclaaUnPlain
import Derived.Deep.DeepCutAuto
namespace Go.Proofs.Ytpnncadglhlclaa
open Go Go.RowKit
set_option maxRecDepth 20000 in
set_option maxHeartbeats 4000000 in
theorem shUnion (N : Int) (A : Option Addr) (mg c : Nat) (E : List Edg) (B : Option Addr) (m d : Nat) (R : List Row) (w : World) (h : Rd w A 3 mg (esCells E)) (hmg : mg ≤ 1000000)
    (hr : Rd w B 1 m (R.map rowVal)) (hm : m ≤ 12) (hR : ∀ k, k < m → Rd w (gr R k).A 1 (gr R k).n ((gr R k).xs.map (.int .i64)) ∧ (gr R k).n ≤ 60 ∧ ((gr R k).A = none → (gr R k).n = 0 ∧ (gr R k).c = 0)) :
    Calls Try.prog 56 #[.agg #[.int .i64 N, .slice A mg c], .slice B m d] w fun e w' => e = .returned (.int .u64 (unionV N E (unA R m))) ∧ Grows w w' := by
  have hM : R.length = m := by simpa using hr.len
  have hcl : (ccK R m).length ≤ 1000000 := by
    have key : ∀ k, k ≤ m → (ccK R k).length ≤ k * 60 := by
      intro k
      induction k with
      | zero => intro _; simp [ccK]
      | succ k ih =>
        intro hk
        have h1 := ih (by omega)
        have h2 := (hR k (by omega)).1.len
        have h3 := (hR k (by omega)).2.1
        simp at h2
        show (ccK R k ++ _).length ≤ _
        rw [List.length_append]
        omega
    have := key m (Nat.le_refl _)
    omega
  have HP : Hid (unionV N E (Lib.compact (srt (ccK R m))) = unionV N E (unA R m)) := by
    have := union_plain N E R (fun k hk => by have := (hR k (by omega)).1.len; simpa using this)
    rw [hM] at this
    exact this
  have HC := hide (fun (W : World) (g : Grows w W) => concatI B m d R W (hr.grows g) (by omega) (fun k hk => ⟨(hR k hk).1.grows g, (hR k hk).2⟩))
  have HE := hide h
  have hk := compact_len (srt (ccK R m))
  rw [srt_len] at hk
  clear h hr hR hM
  have HU : Hid (unionV N E (Lib.compact (srt (ccK R m))) = if edgesB N E (Lib.compact (srt (ccK R m))) then wtK E (Lib.compact (srt (ccK R m))) (Lib.compact (srt (ccK R m))).length else 0) := rfl
  rw [HP.out] at HU
  generalize hcc : ccK R m = cc at *
  generalize unionV N E (unA R m) = uv at *
  go_enter Try.func56, Try.ntmps56
  go_wp2_with (first
    | (go_at_call 95; refine (HC.out _ (by repeat (first | exact Grows.refl _ | refine Grows.now ?_ _ | refine Grows.new ?_ _ | refine Grows.drewN ?_ _ | refine Grows.drew ?_ | assumption | (refine Grows.set ?_ (by first | omega | (simp; done) | (simp; omega)) _)))).mono ?_; rintro e w' ⟨A1, c1, rfl, hown, hg⟩; obtain ⟨x, rfl⟩ := hg.later; have HO := hide hown; have HS := hide (fun (W : World) (hW : x.now = W) => sortOwn _ W A1 _ c1 _ (hW ▸ HO.out) (hW ▸ x.grows) (by omega)); clear hg hown)
    | (go_at_call 96; refine (HS.out _ rfl).mono ?_; rintro e w' ⟨rfl, y, rfl, hown1⟩; have HO1 := hide hown1; clear hown1))
  have HK := hide (fun (W : World) (g : Grows y.now W) => compactOwn _ W A1 _ c1 (srt cc) (HO1.out.grows g) (y.grows.trans g) (by omega))
  have HWt := hide (fun (W : World) (A2 : Option Addr) (c2 : Nat) (g : Grows w W) (hr2 : Rd W A2 1 (Lib.compact (srt cc)).length ((Lib.compact (srt cc)).map (.int .i64))) => pWeight N A mg c E A2 _ c2 (Lib.compact (srt cc)) W (HE.out.grows g) hmg hr2 (by omega))
  rw [← HU.out] at HWt
  have HU0 : Hid (edgesB N E (Lib.compact (srt cc)) = false → uv = 0) := fun e => by rw [HU.out, e]; rfl
  clear HU
  generalize edgesB N E (Lib.compact (srt cc)) = bb at *
  go_region_with (first
    | (go_at_call 78; refine (HK.out _ (by repeat (first | exact Grows.refl _ | refine Grows.now ?_ _ | refine Grows.new ?_ _ | refine Grows.drewN ?_ _ | refine Grows.drew ?_ | assumption | (refine Grows.set ?_ (by first | omega | (simp; done) | (simp; omega)) _)))).mono ?_; rintro e w' ⟨z, rfl, A2, c2, rfl, hr2⟩; have HR2 := hide hr2; clear hr2)
    | (go_at_call 97; refine (HWt.out _ A2 c2 (by repeat (first | exact Grows.refl _ | refine Grows.now ?_ _ | refine Grows.new ?_ _ | refine Grows.drewN ?_ _ | refine Grows.drew ?_ | assumption | (refine Grows.set ?_ (by first | omega | (simp; done) | (simp; omega)) _))) (HR2.out.grows (by repeat (first | exact Grows.refl _ | refine Grows.now ?_ _ | refine Grows.new ?_ _ | refine Grows.drewN ?_ _ | refine Grows.drew ?_ | assumption | (refine Grows.set ?_ (by first | omega | (simp; done) | (simp; omega)) _))))).mono ?_; rintro e w' ⟨rfl, hg⟩; obtain ⟨x2, rfl⟩ := hg.later; clear hg))
  all_goals cases bb
  all_goals go_wp2
  all_goals go_ret
  all_goals refine ⟨?_, (by repeat (first | exact Grows.refl _ | refine Grows.now ?_ _ | refine Grows.new ?_ _ | refine Grows.drewN ?_ _ | refine Grows.drew ?_ | assumption | (refine Grows.set ?_ (by first | omega | (simp; done) | (simp; omega)) _)))⟩
  all_goals first | rfl | (have e0 := HU0.out trivial; rw [e0]; done) | (have e0 := HU0.out trivial; rw [e0]; rfl) | (have e0 := HU0.out rfl; rw [e0]; rfl)
end Go.Proofs.Ytpnncadglhlclaa
