import Derived.Test.YtahfmaocihlcnaaS5
set_option linter.unusedVariables false
set_option linter.unusedSimpArgs false
namespace Go.Proofs.Ytahfmaocihlcnaa
open Go.RowKit Go.Shelf GW Go.Proofs.YtahfmaocihlcnaaW.PrintWords Go.Proofs.YtahfmaocihlcnaaW.PrintLast Go.Proofs.YtahfmaocihlcnaaW.PrintMore
attribute [local go_sem] max_ii min_ii

theorem within_any (n lo hi : Int) (w : World) : Calls Try.prog 18 #[.int .i64 n, .int .i64 lo, .int .i64 hi] w fun e w' => e = .returned (.bool (decide (lo ≤ n ∧ n ≤ hi))) ∧ w' = w := by
  go_enter Try.func18, Try.ntmps18
  by_cases h1 : lo ≤ n <;> by_cases h2 : n ≤ hi <;> (go_wp2; go_ret; exact ⟨by simp [h1, h2], rfl⟩)
theorem in_any (n lo hi : Int) (w : World) : Calls Try.prog 17 #[.int .i64 n, .int .i64 lo, .int .i64 hi] w fun e w' => e = .returned (.bool (decide (lo ≤ n ∧ n ≤ hi))) ∧ w' = w := by
  go_enter Try.func17, Try.ntmps17
  by_cases h1 : lo ≤ n <;> by_cases h2 : n ≤ hi <;> (go_wp2; go_ret; exact ⟨by simp [h1, h2], rfl⟩)

/-- What is asked of an act, in the code's order. -/
def Ac.okB (a : Ac) : Bool := decide (0 ≤ a.a0 ∧ a.a0 ≤ 100000) && decide (1 ≤ a.a2 ∧ a.a2 ≤ 100000) && (decide (0 ≤ a.a1 ∧ a.a1 ≤ 10000) && decide (0 ≤ a.a3 ∧ a.a3 ≤ 10000)) && decide (0 ≤ a.a4 ∧ a.a4 ≤ 1099511627776) && decide (0 ≤ a.a5 ∧ a.a5 ≤ 5)
theorem Ac.okB_iff (a : Ac) : a.okB = true ↔ a.ok := by
  unfold Ac.okB Ac.ok
  simp only [Bool.and_eq_true, decide_eq_true_eq]
  constructor
  · rintro ⟨⟨⟨⟨⟨h0, h1⟩, h2, h3⟩, ⟨h4, h5⟩, h6, h7⟩, h8, h9⟩, h10, h11⟩
    exact ⟨h0, h1, h2, h3, h4, h5, h6, h7, h8, h9, h10, h11⟩
  · intro h
    exact ⟨⟨⟨⟨⟨h.p0, h.p1⟩, h.s0, h.s1⟩, ⟨h.d0, h.d1⟩, h.g0, h.g1⟩, h.m0, h.m1⟩, h.b0, h.b1⟩

set_option maxHeartbeats 1000000 in
theorem isAct_any (a : Ac) (w : World) : Calls Try.prog 21 #[a.v] w fun e w' => e = .returned (.bool a.okB) ∧ Below w.heap.size w w' := by
  unfold Ac.v Ac.okB
  generalize h0 : decide (0 ≤ a.a0 ∧ a.a0 ≤ 100000) = b0
  generalize h1 : decide (1 ≤ a.a2 ∧ a.a2 ≤ 100000) = b1
  generalize h2 : decide (0 ≤ a.a1 ∧ a.a1 ≤ 10000) = b2
  generalize h3 : decide (0 ≤ a.a3 ∧ a.a3 ≤ 10000) = b3
  generalize h4 : decide (0 ≤ a.a4 ∧ a.a4 ≤ 1099511627776) = b4
  generalize h5 : decide (0 ≤ a.a5 ∧ a.a5 ≤ 5) = b5
  have H0 := Lib.hid h0
  have H1 := Lib.hid h1
  have H2 := Lib.hid h2
  have H3 := Lib.hid h3
  have H4 := Lib.hid h4
  have H5 := Lib.hid h5
  clear h0 h1 h2 h3 h4 h5
  go_enter Try.func21, Try.ntmps21
  cases b0 <;> cases b1 <;> cases b2 <;> cases b3 <;> cases b4 <;> cases b5 <;>
  (go_wp2_with (go_at_call 18; refine (within_any _ _ _ _).mono ?_; rintro e w' ⟨rfl, rfl⟩; first | rw [H0.out] | rw [H1.out] | rw [H2.out] | rw [H3.out] | rw [H4.out] | rw [H5.out]))
  all_goals (go_ret; exact ⟨rfl, (Below.refl _ w).alloc (Nat.le_refl _) _⟩)

theorem bad_any (y : Yr) (w : World) : Calls Try.prog 25 #[.agg #[.int .i64 y.price, .int .i64 y.cap, .int .i64 y.profit]] w fun e w' =>
    e = .returned (.bool (!decide (0 ≤ y.price ∧ y.price ≤ 100000) || !decide (0 ≤ y.cap ∧ y.cap ≤ 1099511627776) || !decide (-1099511627776 ≤ y.profit ∧ y.profit ≤ 1099511627776))) ∧ Below w.heap.size w w' := by
  generalize h0 : decide (0 ≤ y.price ∧ y.price ≤ 100000) = b0
  generalize h1 : decide (0 ≤ y.cap ∧ y.cap ≤ 1099511627776) = b1
  generalize h2 : decide (-1099511627776 ≤ y.profit ∧ y.profit ≤ 1099511627776) = b2
  have H0 := Lib.hid h0
  have H1 := Lib.hid h1
  have H2 := Lib.hid h2
  clear h0 h1 h2
  go_enter Try.func25, Try.ntmps25
  cases b0 <;> cases b1 <;> cases b2 <;>
  (go_wp2_with (go_at_call 18; refine (within_any _ _ _ _).mono ?_; rintro e w' ⟨rfl, rfl⟩; first | rw [H0.out] | rw [H1.out] | rw [H2.out]))
  all_goals (go_ret; exact ⟨rfl, (Below.refl _ w).alloc (Nat.le_refl _) _⟩)
end Go.Proofs.Ytahfmaocihlcnaa
