/- What the small functions of the sliding scale compute. -/
import Derived.Test.YtahfmaocihlcnaaProg
import Derived.Test.YtahfmaocihlcnaaSep
set_option linter.unusedVariables false
set_option linter.unusedSimpArgs false
namespace Go.Proofs.Ytahfmaocihlcnaa
open Go.RowKit GW
attribute [local go_sem] max_ii min_ii

set_option maxHeartbeats 400000 in
theorem cheaper_any (c s : Int) (w : World) (h0 : 0 ≤ c) (h1 : c ≤ 100000) (h2 : 1 ≤ s) (h3 : s ≤ 100000) :
    Calls Try.prog 48 #[.int .i64 c, .int .i64 s] w fun e w' => e = .returned (.int .i64 (c / s)) ∧ w = w' := by
  go_enter Try.func48, Try.ntmps48
  go_wp2
  go_ret
  exact ⟨rfl, rfl⟩

theorem cheap_bd (c s : Int) (h0 : 0 ≤ c) (h1 : c ≤ 100000) (h2 : 1 ≤ s) : 0 ≤ c / s ∧ c / s ≤ 100000 :=
  ⟨Int.ediv_nonneg (by omega) (by omega), by have := Int.ediv_le_self s h0; omega⟩
theorem dear_bd (c s : Int) (h0 : 0 ≤ c) (h1 : c ≤ 100000) (h2 : 1 ≤ s) : 0 ≤ (c + s - 1) / s ∧ (c + s - 1) / s ≤ 100000 := by
  refine ⟨Int.ediv_nonneg (by omega) (by omega), ?_⟩
  have h : (c + s - 1) / s ≤ (100000 * s) / s := Int.ediv_le_ediv (by omega) (by
    rcases Int.lt_or_le c 1 with h | h
    · have : 100000 * s ≥ s := by omega
      omega
    · have e : 100000 * s - s = 99999 * s := by omega
      have : 99999 * 1 ≤ 99999 * s := Int.mul_le_mul_of_nonneg_left h2 (by omega)
      omega)
  rwa [Int.mul_ediv_cancel _ (by omega)] at h

set_option maxHeartbeats 400000 in
theorem dearer_any (c s : Int) (w : World) (h0 : 0 ≤ c) (h1 : c ≤ 100000) (h2 : 1 ≤ s) (h3 : s ≤ 100000) :
    Calls Try.prog 49 #[.int .i64 c, .int .i64 s] w fun e w' => e = .returned (.int .i64 (-((c + s - 1) / s))) ∧ w = w' := by
  obtain ⟨hq0, hq1⟩ := dear_bd c s h0 h1 h2
  go_enter Try.func49, Try.ntmps49
  go_wp2
  go_ret
  exact ⟨rfl, rfl⟩

set_option maxHeartbeats 400000 in
theorem slideOf_lo (a0 a1 a2 a3 a4 a5 p : Int) (w : World) (h0 : 0 ≤ a0) (h1 : a0 ≤ 100000) (h2 : 0 ≤ p) (h3 : p ≤ 100000) (h : p ≤ a0) :
    Calls Try.prog 30 #[.agg #[.int .i64 a0, .int .i64 a1, .int .i64 a2, .int .i64 a3, .int .i64 a4, .int .i64 a5], .int .i64 p] w fun e w' =>
      e = .returned (.iface 76 (.int .i64 (a0 - p))) ∧ Below w.heap.size w w' := by
  go_enter Try.func30, Try.ntmps30
  go_wp2
  go_ret
  exact ⟨rfl, (Below.refl _ _).alloc (Nat.le_refl _) _⟩
set_option maxHeartbeats 400000 in
theorem slideOf_hi (a0 a1 a2 a3 a4 a5 p : Int) (w : World) (h0 : 0 ≤ a0) (h1 : a0 ≤ 100000) (h2 : 0 ≤ p) (h3 : p ≤ 100000) (h : ¬ p ≤ a0) :
    Calls Try.prog 30 #[.agg #[.int .i64 a0, .int .i64 a1, .int .i64 a2, .int .i64 a3, .int .i64 a4, .int .i64 a5], .int .i64 p] w fun e w' =>
      e = .returned (.iface 77 (.int .i64 (p - a0))) ∧ Below w.heap.size w w' := by
  go_enter Try.func30, Try.ntmps30
  go_wp2
  go_ret
  exact ⟨rfl, (Below.refl _ _).alloc (Nat.le_refl _) _⟩

set_option maxHeartbeats 400000 in
theorem clamp_any (n : Int) (w : World) (b c : Nat) (c0 : w.cell? ⟨b, 0, none⟩ = some (.int .i64 0)) (c1 : w.cell? ⟨b, 1, none⟩ = some (.int .i64 10000)) :
    Calls Try.prog 29 #[.int .i64 n, .slice (some ⟨b, 0, none⟩) 2 c] w fun e w' => e = .returned (.int .i64 (min (max n 0) 10000)) ∧ ∃ k, w' = w.drewN k := by
  go_enter Try.func29, Try.ntmps29
  go_wp2
  refine wp_loop_rounds 2 ?_
  rw [rounds_succ]
  go_wp2
  go_quiet (fail)
  go_wp2
  rw [rounds_succ]
  go_wp2
  go_ret
  exact ⟨rfl, _, rfl⟩

/-- How many steps the dividend rises. -/
def steps (a0 a2 p : Int) : Int := if p ≤ a0 then (a0 - p) / a2 else -((p - a0 + a2 - 1) / a2)
/-- The rate of a price. -/
def rate (a0 a1 a2 a3 p : Int) : Int := min (max (a1 + a3 * steps a0 a2 p) 0) 10000
theorem rate_bd (a0 a1 a2 a3 p : Int) : 0 ≤ rate a0 a1 a2 a3 p ∧ rate a0 a1 a2 a3 p ≤ 10000 := by unfold rate; omega

set_option maxHeartbeats 1600000 in
theorem rateOf_lo (a0 a1 a2 a3 a4 a5 p : Int) (w : World) (h0 : 0 ≤ a0) (h1 : a0 ≤ 100000) (h2 : 0 ≤ p) (h3 : p ≤ 100000) (h4 : 1 ≤ a2) (h5 : a2 ≤ 100000)
    (h6 : 0 ≤ a1) (h7 : a1 ≤ 10000) (h8 : 0 ≤ a3) (h9 : a3 ≤ 10000) (h : p ≤ a0) :
    Calls Try.prog 22 #[.agg #[.int .i64 a0, .int .i64 a1, .int .i64 a2, .int .i64 a3, .int .i64 a4, .int .i64 a5], .int .i64 p] w fun e w' =>
      e = .returned (.int .i64 (min (max (a1 + a3 * ((a0 - p) / a2)) 0) 10000)) ∧ Below w.heap.size w w' := by
  obtain ⟨hq0, hq1⟩ := cheap_bd (a0 - p) a2 (by omega) (by omega) h4
  have hm0 : 0 ≤ a3 * ((a0 - p) / a2) := Int.mul_nonneg h8 hq0
  have hm1 : a3 * ((a0 - p) / a2) ≤ 10000 * 100000 := Int.mul_le_mul h9 hq1 hq0 (by omega)
  go_enter Try.func22, Try.ntmps22
  go_wp2_with fail
  refine wp_region_sep [14] [] [some 5, some 6, some 7, some 8, some 9, some 10, some 11, some 12, some 13, some 14, some 15, some 16, some 17, some 18, none] [_] [none, none, none, none, none, none, none, none, none, none, none, none, some (fun v W => ∃ g, v = .slice (some ⟨g, 0, none⟩) 2 2 ∧ W.cell? ⟨g, 0, none⟩ = some (.int .i64 0) ∧ W.cell? ⟨g, 1, none⟩ = some (.int .i64 10000)), none, some (fun _ _ => True)]
    (fun W => W.cell? ⟨w.heap.size, 0, none⟩ = some ((Value.int .i64 a0)) ∧ W.cell? ⟨w.heap.size, 1, none⟩ = some ((Value.int .i64 a1)) ∧ W.cell? ⟨w.heap.size, 2, none⟩ = some ((Value.int .i64 a2)) ∧ W.cell? ⟨w.heap.size, 3, none⟩ = some ((Value.int .i64 a3)) ∧ W.cell? ⟨w.heap.size, 4, none⟩ = some ((Value.int .i64 a4)) ∧ W.cell? ⟨w.heap.size, 5, none⟩ = some ((Value.int .i64 a5)))
    (by kernel_rfl) (by kernel_rfl) (by kernel_rfl) rfl rfl (by kernel_rfl) (fun _ d _ _ _ h => by cases d <;> exact h) ?hS (fun W W' ⟨c0, c1, c2, c3, c4, c5⟩ hb => ⟨kcell hb c0, kcell hb c1, kcell hb c2, kcell hb c3, kcell hb c4, kcell hb c5⟩) ?_
  case hS =>
    refine ⟨?_, ?_, ?_, ?_, ?_, ?_⟩
    · first | assumption | (go_simp; done)
    · first | assumption | (go_simp; done)
    · first | assumption | (go_simp; done)
    · first | assumption | (go_simp; done)
    · first | assumption | (go_simp; done)
    · first | assumption | (go_simp; done)
  simp only [exN]
  repeat apply Exists.intro
  refine ⟨?_, ?_⟩
  · -- the operations
    refine ⟨?_, ?_⟩
    · rintro x W ⟨c0, c1, c2, c3, c4, c5⟩ Q hQ; change wpList _ _ _ _ (Act.mk #[_, _, _, _, _, _, _, _, _, _, _, _, _, _, _, _, _, _, _] _) _; go_wp2; refine ⟨rfl, rfl, ?_, rfl⟩; first | exact Below.refl _ _ | assumption | exact below_drewN (Below.refl _ _) _
    refine ⟨?_, ?_⟩
    · rintro x W ⟨c0, c1, c2, c3, c4, c5⟩ Q hQ; change wpList _ _ _ _ (Act.mk #[_, _, _, _, _, _, _, _, _, _, _, _, _, _, _, _, _, _, _] _) _; go_wp2; refine ⟨rfl, rfl, ?_, rfl⟩; first | exact Below.refl _ _ | assumption | exact below_drewN (Below.refl _ _) _
    refine ⟨?_, ?_⟩
    · rintro x W ⟨c0, c1, c2, c3, c4, c5⟩ Q hQ; change wpList _ _ _ _ (Act.mk #[_, _, _, _, _, _, _, _, _, _, _, _, _, _, _, _, _, _, _] _) _; go_wp2; refine ⟨rfl, rfl, ?_, rfl⟩; first | exact Below.refl _ _ | assumption | exact below_drewN (Below.refl _ _) _
    refine ⟨?_, ?_⟩
    · rintro x W ⟨c0, c1, c2, c3, c4, c5⟩ Q hQ; change wpList _ _ _ _ (Act.mk #[_, _, _, _, _, _, _, _, _, _, _, _, _, _, _, _, _, _, _] _) _; go_wp2; refine ⟨rfl, rfl, ?_, rfl⟩; first | exact Below.refl _ _ | assumption | exact below_drewN (Below.refl _ _) _
    refine ⟨?_, ?_⟩
    · rintro x W ⟨c0, c1, c2, c3, c4, c5⟩ Q hQ; change wpList _ _ _ _ (Act.mk #[_, _, _, _, _, _, _, _, _, _, _, _, _, _, _, _, _, _, _] _) _; go_wp2; refine ⟨rfl, rfl, ?_, rfl⟩; first | exact Below.refl _ _ | assumption | exact below_drewN (Below.refl _ _) _
    refine ⟨?_, ?_⟩
    · rintro x W ⟨c0, c1, c2, c3, c4, c5⟩ Q hQ; change wpList _ _ _ _ (Act.mk #[_, _, _, _, _, _, _, _, _, _, _, _, _, _, _, _, _, _, _] _) _; go_wp2; refine ⟨rfl, rfl, ?_, rfl⟩; first | exact Below.refl _ _ | assumption | exact below_drewN (Below.refl _ _) _
    refine ⟨?_, ?_⟩
    · rintro x W ⟨c0, c1, c2, c3, c4, c5⟩ Q hQ; change wpList _ _ _ _ (Act.mk #[_, _, _, _, _, _, _, _, _, _, _, _, _, _, _, _, _, _, _] _) _; go_wp2_with (first | (go_at_call 30; refine (slideOf_lo _ _ _ _ _ _ _ _ h0 h1 h2 h3 h).mono ?_; rintro e w' ⟨rfl, hb1⟩) | (go_at_call 48; refine (cheaper_any _ _ _ (by omega) (by omega) h4 h5).mono ?_; rintro e w' ⟨rfl, rfl⟩)); refine ⟨rfl, rfl, ?_, rfl⟩; first | exact Below.refl _ _ | assumption | exact below_drewN (Below.refl _ _) _
    refine ⟨?_, ?_⟩
    · rintro x W ⟨c0, c1, c2, c3, c4, c5⟩ Q hQ; change wpList _ _ _ _ (Act.mk #[_, _, _, _, _, _, _, _, _, _, _, _, _, _, _, _, _, _, _] _) _; go_wp2; refine ⟨rfl, rfl, ?_, rfl⟩; first | exact Below.refl _ _ | assumption | exact below_drewN (Below.refl _ _) _
    refine ⟨?_, ?_⟩
    · rintro x W ⟨c0, c1, c2, c3, c4, c5⟩ Q hQ; change wpList _ _ _ _ (Act.mk #[_, _, _, _, _, _, _, _, _, _, _, _, _, _, _, _, _, _, _] _) _; go_wp2; refine ⟨rfl, rfl, ?_, rfl⟩; first | exact Below.refl _ _ | assumption | exact below_drewN (Below.refl _ _) _
    refine ⟨?_, ?_⟩
    · rintro x W ⟨c0, c1, c2, c3, c4, c5⟩ Q hQ; change wpList _ _ _ _ (Act.mk #[_, _, _, _, _, _, _, _, _, _, _, _, _, _, _, _, _, _, _] _) _; go_wp2_with (first | (go_at_call 30; refine (slideOf_lo _ _ _ _ _ _ _ _ h0 h1 h2 h3 h).mono ?_; rintro e w' ⟨rfl, hb1⟩) | (go_at_call 48; refine (cheaper_any _ _ _ (by omega) (by omega) h4 h5).mono ?_; rintro e w' ⟨rfl, rfl⟩)); refine ⟨rfl, rfl, ?_, rfl⟩; first | exact Below.refl _ _ | assumption | exact below_drewN (Below.refl _ _) _
    refine ⟨?_, ?_⟩
    · rintro x W ⟨c0, c1, c2, c3, c4, c5⟩ Q hQ; change wpList _ _ _ _ (Act.mk #[_, _, _, _, _, _, _, _, _, _, _, _, _, _, _, _, _, _, _] _) _; go_wp2; refine ⟨rfl, rfl, ?_, rfl⟩; first | exact Below.refl _ _ | assumption | exact below_drewN (Below.refl _ _) _
    refine ⟨?_, ?_⟩
    · rintro x W ⟨c0, c1, c2, c3, c4, c5⟩ Q hQ; change wpList _ _ _ _ (Act.mk #[_, _, _, _, _, _, _, _, _, _, _, _, _, _, _, _, _, _, _] _) _; go_wp2; refine ⟨rfl, rfl, ?_, rfl⟩; first | exact Below.refl _ _ | assumption | exact below_drewN (Below.refl _ _) _
    refine ⟨?_, ?_⟩
    · -- 12: Op.buildSlice 52 2 #[(0, const (0:i64)), (1, const (10000:i64))]
      rintro x W ⟨c0, c1, c2, c3, c4, c5⟩ Q hQ; change wpList _ _ _ _ (Act.mk #[_, _, _, _, _, _, _, _, _, _, _, _, _, _, _, _, _, _, _] _) _; go_wp2
      exact ⟨rfl, rfl, (Below.refl _ _).alloc (Nat.le_refl _) _, ⟨_, rfl, by go_simp, by go_simp⟩⟩
    refine ⟨?_, ?_⟩
    · -- 13: Op.call { value (Operand.func 29), args := #[t16, t17], argTypes := #[3, 52] }
      rintro x W ⟨c0, c1, c2, c3, c4, c5⟩ ⟨w1, hb1, g, e1, d1, d2⟩ Q hQ; change wpList _ _ _ _ (Act.mk #[_, _, _, _, _, _, _, _, _, _, _, _, _, _, _, _, _, _, _] _) _
      have d1 := kcell hb1 d1
      have d2 := kcell hb1 d2
      rw [e1]
      go_wp2_with (go_at_call 29; refine (clamp_any _ _ _ _ d1 d2).mono ?_; rintro e w' ⟨rfl, k, rfl⟩)
      exact ⟨rfl, rfl, below_drewN (Below.refl _ _) _, rfl⟩
    trivial
  intro x W hS_ hb e12
  obtain ⟨c0, c1, c2, c3, c4, c5⟩ := hS_
  change wpList _ _ _ _ _ _
  simp only [overlay, pairs, GW.look, if_true, if_false]
  go_wp2
  go_ret
  exact ⟨rfl, ((Below.refl _ _).alloc (Nat.le_refl _) _).trans (hb.mono (by simp))⟩

set_option maxHeartbeats 1600000 in
theorem rateOf_hi (a0 a1 a2 a3 a4 a5 p : Int) (w : World) (h0 : 0 ≤ a0) (h1 : a0 ≤ 100000) (h2 : 0 ≤ p) (h3 : p ≤ 100000) (h4 : 1 ≤ a2) (h5 : a2 ≤ 100000)
    (h6 : 0 ≤ a1) (h7 : a1 ≤ 10000) (h8 : 0 ≤ a3) (h9 : a3 ≤ 10000) (h : ¬ p ≤ a0) :
    Calls Try.prog 22 #[.agg #[.int .i64 a0, .int .i64 a1, .int .i64 a2, .int .i64 a3, .int .i64 a4, .int .i64 a5], .int .i64 p] w fun e w' =>
      e = .returned (.int .i64 (min (max (a1 + a3 * (-((p - a0 + a2 - 1) / a2))) 0) 10000)) ∧ Below w.heap.size w w' := by
  obtain ⟨hq0, hq1⟩ := dear_bd (p - a0) a2 (by omega) (by omega) h4
  have hm0 : a3 * (-((p - a0 + a2 - 1) / a2)) ≤ 0 := by rw [Int.mul_neg]; have := Int.mul_nonneg h8 hq0; omega
  have hm1 : -(10000 * 100000) ≤ a3 * (-((p - a0 + a2 - 1) / a2)) := by rw [Int.mul_neg]; have := Int.mul_le_mul h9 hq1 hq0 (by omega); omega
  go_enter Try.func22, Try.ntmps22
  go_wp2_with fail
  refine wp_region_sep [14] [] [some 5, some 6, some 7, some 8, some 9, some 10, some 11, some 12, some 13, some 14, some 15, some 16, some 17, some 18, none] [_] [none, none, none, none, none, none, none, none, none, none, none, none, some (fun v W => ∃ g, v = .slice (some ⟨g, 0, none⟩) 2 2 ∧ W.cell? ⟨g, 0, none⟩ = some (.int .i64 0) ∧ W.cell? ⟨g, 1, none⟩ = some (.int .i64 10000)), none, some (fun _ _ => True)]
    (fun W => W.cell? ⟨w.heap.size, 0, none⟩ = some ((Value.int .i64 a0)) ∧ W.cell? ⟨w.heap.size, 1, none⟩ = some ((Value.int .i64 a1)) ∧ W.cell? ⟨w.heap.size, 2, none⟩ = some ((Value.int .i64 a2)) ∧ W.cell? ⟨w.heap.size, 3, none⟩ = some ((Value.int .i64 a3)) ∧ W.cell? ⟨w.heap.size, 4, none⟩ = some ((Value.int .i64 a4)) ∧ W.cell? ⟨w.heap.size, 5, none⟩ = some ((Value.int .i64 a5)))
    (by kernel_rfl) (by kernel_rfl) (by kernel_rfl) rfl rfl (by kernel_rfl) (fun _ d _ _ _ h => by cases d <;> exact h) ?hS (fun W W' ⟨c0, c1, c2, c3, c4, c5⟩ hb => ⟨kcell hb c0, kcell hb c1, kcell hb c2, kcell hb c3, kcell hb c4, kcell hb c5⟩) ?_
  case hS =>
    refine ⟨?_, ?_, ?_, ?_, ?_, ?_⟩
    · first | assumption | (go_simp; done)
    · first | assumption | (go_simp; done)
    · first | assumption | (go_simp; done)
    · first | assumption | (go_simp; done)
    · first | assumption | (go_simp; done)
    · first | assumption | (go_simp; done)
  simp only [exN]
  repeat apply Exists.intro
  refine ⟨?_, ?_⟩
  · -- the operations
    refine ⟨?_, ?_⟩
    · rintro x W ⟨c0, c1, c2, c3, c4, c5⟩ Q hQ; change wpList _ _ _ _ (Act.mk #[_, _, _, _, _, _, _, _, _, _, _, _, _, _, _, _, _, _, _] _) _; go_wp2; refine ⟨rfl, rfl, ?_, rfl⟩; first | exact Below.refl _ _ | assumption | exact below_drewN (Below.refl _ _) _
    refine ⟨?_, ?_⟩
    · rintro x W ⟨c0, c1, c2, c3, c4, c5⟩ Q hQ; change wpList _ _ _ _ (Act.mk #[_, _, _, _, _, _, _, _, _, _, _, _, _, _, _, _, _, _, _] _) _; go_wp2; refine ⟨rfl, rfl, ?_, rfl⟩; first | exact Below.refl _ _ | assumption | exact below_drewN (Below.refl _ _) _
    refine ⟨?_, ?_⟩
    · rintro x W ⟨c0, c1, c2, c3, c4, c5⟩ Q hQ; change wpList _ _ _ _ (Act.mk #[_, _, _, _, _, _, _, _, _, _, _, _, _, _, _, _, _, _, _] _) _; go_wp2; refine ⟨rfl, rfl, ?_, rfl⟩; first | exact Below.refl _ _ | assumption | exact below_drewN (Below.refl _ _) _
    refine ⟨?_, ?_⟩
    · rintro x W ⟨c0, c1, c2, c3, c4, c5⟩ Q hQ; change wpList _ _ _ _ (Act.mk #[_, _, _, _, _, _, _, _, _, _, _, _, _, _, _, _, _, _, _] _) _; go_wp2; refine ⟨rfl, rfl, ?_, rfl⟩; first | exact Below.refl _ _ | assumption | exact below_drewN (Below.refl _ _) _
    refine ⟨?_, ?_⟩
    · rintro x W ⟨c0, c1, c2, c3, c4, c5⟩ Q hQ; change wpList _ _ _ _ (Act.mk #[_, _, _, _, _, _, _, _, _, _, _, _, _, _, _, _, _, _, _] _) _; go_wp2; refine ⟨rfl, rfl, ?_, rfl⟩; first | exact Below.refl _ _ | assumption | exact below_drewN (Below.refl _ _) _
    refine ⟨?_, ?_⟩
    · rintro x W ⟨c0, c1, c2, c3, c4, c5⟩ Q hQ; change wpList _ _ _ _ (Act.mk #[_, _, _, _, _, _, _, _, _, _, _, _, _, _, _, _, _, _, _] _) _; go_wp2; refine ⟨rfl, rfl, ?_, rfl⟩; first | exact Below.refl _ _ | assumption | exact below_drewN (Below.refl _ _) _
    refine ⟨?_, ?_⟩
    · rintro x W ⟨c0, c1, c2, c3, c4, c5⟩ Q hQ; change wpList _ _ _ _ (Act.mk #[_, _, _, _, _, _, _, _, _, _, _, _, _, _, _, _, _, _, _] _) _; go_wp2_with (first | (go_at_call 30; refine (slideOf_hi _ _ _ _ _ _ _ _ h0 h1 h2 h3 (by omega)).mono ?_; rintro e w' ⟨rfl, hb1⟩) | (go_at_call 49; refine (dearer_any _ _ _ (by omega) (by omega) h4 h5).mono ?_; rintro e w' ⟨rfl, rfl⟩)); refine ⟨rfl, rfl, ?_, rfl⟩; first | exact Below.refl _ _ | assumption | exact below_drewN (Below.refl _ _) _
    refine ⟨?_, ?_⟩
    · rintro x W ⟨c0, c1, c2, c3, c4, c5⟩ Q hQ; change wpList _ _ _ _ (Act.mk #[_, _, _, _, _, _, _, _, _, _, _, _, _, _, _, _, _, _, _] _) _; go_wp2; refine ⟨rfl, rfl, ?_, rfl⟩; first | exact Below.refl _ _ | assumption | exact below_drewN (Below.refl _ _) _
    refine ⟨?_, ?_⟩
    · rintro x W ⟨c0, c1, c2, c3, c4, c5⟩ Q hQ; change wpList _ _ _ _ (Act.mk #[_, _, _, _, _, _, _, _, _, _, _, _, _, _, _, _, _, _, _] _) _; go_wp2; refine ⟨rfl, rfl, ?_, rfl⟩; first | exact Below.refl _ _ | assumption | exact below_drewN (Below.refl _ _) _
    refine ⟨?_, ?_⟩
    · rintro x W ⟨c0, c1, c2, c3, c4, c5⟩ Q hQ; change wpList _ _ _ _ (Act.mk #[_, _, _, _, _, _, _, _, _, _, _, _, _, _, _, _, _, _, _] _) _; go_wp2_with (first | (go_at_call 30; refine (slideOf_hi _ _ _ _ _ _ _ _ h0 h1 h2 h3 (by omega)).mono ?_; rintro e w' ⟨rfl, hb1⟩) | (go_at_call 49; refine (dearer_any _ _ _ (by omega) (by omega) h4 h5).mono ?_; rintro e w' ⟨rfl, rfl⟩)); refine ⟨rfl, rfl, ?_, rfl⟩; first | exact Below.refl _ _ | assumption | exact below_drewN (Below.refl _ _) _
    refine ⟨?_, ?_⟩
    · rintro x W ⟨c0, c1, c2, c3, c4, c5⟩ Q hQ; change wpList _ _ _ _ (Act.mk #[_, _, _, _, _, _, _, _, _, _, _, _, _, _, _, _, _, _, _] _) _; go_wp2; refine ⟨rfl, rfl, ?_, rfl⟩; first | exact Below.refl _ _ | assumption | exact below_drewN (Below.refl _ _) _
    refine ⟨?_, ?_⟩
    · rintro x W ⟨c0, c1, c2, c3, c4, c5⟩ Q hQ; change wpList _ _ _ _ (Act.mk #[_, _, _, _, _, _, _, _, _, _, _, _, _, _, _, _, _, _, _] _) _; go_wp2; refine ⟨rfl, rfl, ?_, rfl⟩; first | exact Below.refl _ _ | assumption | exact below_drewN (Below.refl _ _) _
    refine ⟨?_, ?_⟩
    · -- 12: Op.buildSlice 52 2 #[(0, const (0:i64)), (1, const (10000:i64))]
      rintro x W ⟨c0, c1, c2, c3, c4, c5⟩ Q hQ; change wpList _ _ _ _ (Act.mk #[_, _, _, _, _, _, _, _, _, _, _, _, _, _, _, _, _, _, _] _) _; go_wp2
      exact ⟨rfl, rfl, (Below.refl _ _).alloc (Nat.le_refl _) _, ⟨_, rfl, by go_simp, by go_simp⟩⟩
    refine ⟨?_, ?_⟩
    · -- 13: Op.call { value (Operand.func 29), args := #[t16, t17], argTypes := #[3, 52] }
      rintro x W ⟨c0, c1, c2, c3, c4, c5⟩ ⟨w1, hb1, g, e1, d1, d2⟩ Q hQ; change wpList _ _ _ _ (Act.mk #[_, _, _, _, _, _, _, _, _, _, _, _, _, _, _, _, _, _, _] _) _
      have d1 := kcell hb1 d1
      have d2 := kcell hb1 d2
      rw [e1]
      go_wp2_with (go_at_call 29; refine (clamp_any _ _ _ _ d1 d2).mono ?_; rintro e w' ⟨rfl, k, rfl⟩)
      exact ⟨rfl, rfl, below_drewN (Below.refl _ _) _, rfl⟩
    trivial
  intro x W hS_ hb e12
  obtain ⟨c0, c1, c2, c3, c4, c5⟩ := hS_
  change wpList _ _ _ _ _ _
  simp only [overlay, pairs, GW.look, if_true, if_false]
  go_wp2
  go_ret
  exact ⟨rfl, ((Below.refl _ _).alloc (Nat.le_refl _) _).trans (hb.mono (by simp))⟩

/-- An act as a value. -/
def actV (a0 a1 a2 a3 a4 a5 : Int) : Value := .agg #[.int .i64 a0, .int .i64 a1, .int .i64 a2, .int .i64 a3, .int .i64 a4, .int .i64 a5]
structure ActOk (a0 a1 a2 a3 a4 a5 : Int) : Prop where
  p0 : 0 ≤ a0
  p1 : a0 ≤ 100000
  s0 : 1 ≤ a2
  s1 : a2 ≤ 100000
  d0 : 0 ≤ a1
  d1 : a1 ≤ 10000
  g0 : 0 ≤ a3
  g1 : a3 ≤ 10000
  m0 : 0 ≤ a4
  m1 : a4 ≤ 1099511627776
  b0 : 0 ≤ a5
  b1 : a5 ≤ 5

theorem rateOf_any {a0 a1 a2 a3 a4 a5 : Int} (H : ActOk a0 a1 a2 a3 a4 a5) (p : Int) (w : World) (h2 : 0 ≤ p) (h3 : p ≤ 100000) :
    Calls Try.prog 22 #[.agg #[.int .i64 a0, .int .i64 a1, .int .i64 a2, .int .i64 a3, .int .i64 a4, .int .i64 a5], .int .i64 p] w fun e w' =>
      e = .returned (.int .i64 (rate a0 a1 a2 a3 p)) ∧ Below w.heap.size w w' := by
  unfold rate steps
  by_cases h : p ≤ a0
  · rw [if_pos h]
    exact rateOf_lo _ _ _ _ _ _ _ _ H.p0 H.p1 h2 h3 H.s0 H.s1 H.d0 H.d1 H.g0 H.g1 h
  · rw [if_neg h]
    exact rateOf_hi _ _ _ _ _ _ _ _ H.p0 H.p1 h2 h3 H.s0 H.s1 H.d0 H.d1 H.g0 H.g1 h
end Go.Proofs.Ytahfmaocihlcnaa
