import Derived.Test.YtahfmaocihlcnaaS11
set_option linter.unusedVariables false
set_option linter.unusedSimpArgs false
namespace Go.Proofs.Ytahfmaocihlcnaa
open Go.RowKit Go.Shelf GW Go.Proofs.YtahfmaocihlcnaaW.PrintWords Go.Proofs.YtahfmaocihlcnaaW.PrintLast Go.Proofs.YtahfmaocihlcnaaW.PrintMore
attribute [local go_sem] max_ii min_ii

theorem dear_any (a : Ac) (ha : a.ok) (r : Int) (hr0 : 0 ≤ r) (hr1 : r ≤ 10000) (w : World) : Calls Try.prog 14 #[a.v, .int .i64 r] w fun e w' =>
    (∃ n : Int, 0 ≤ n ∧ n ≤ 100001 ∧ (n = 0 ∨ ¬ a.rate (n - 1) < r) ∧ (n = 100001 ∨ a.rate n < r) ∧
      e = .returned (.tuple (if n = 0 then #[.int .i64 0, .int .i64 4] else #[.int .i64 (n - 1), .int .i64 0]))) ∧ Below w.heap.size w w' := by
  obtain ⟨X, hX⟩ : ∃ X, X = (w.alloc (.cells #[.int .i64 a.a0, .int .i64 a.a1, .int .i64 a.a2, .int .i64 a.a3, .int .i64 a.a4, .int .i64 a.a5] 23)).alloc (.cells #[.int .i64 r] 3) := ⟨_, rfl⟩
  have hb0 : Below w.heap.size w X := by rw [hX]; exact ((Below.refl _ w).alloc (Nat.le_refl _) _).alloc (by simp) _
  have hA0 : X.heap[w.heap.size]? = some (.cells #[.int .i64 a.a0, .int .i64 a.a1, .int .i64 a.a2, .int .i64 a.a3, .int .i64 a.a4, .int .i64 a.a5] 23 (0, 0)) := by rw [hX]; exact bk_alloc (bk_new _ _) _
  have hR0 : X.heap[w.heap.size + 1]? = some (.cells #[.int .i64 r] 3 (0, 0)) := by
    have := bk_new (w.alloc (.cells #[.int .i64 a.a0, .int .i64 a.a1, .int .i64 a.a2, .int .i64 a.a3, .int .i64 a.a4, .int .i64 a.a5] 23)) (.cells #[.int .i64 r] 3)
    rw [World.size_alloc] at this
    rw [hX]; exact this
  have HX := hX.symm
  clear hX
  have hA1 := fun w => isAct_any a w
  rw [show a.okB = true from a.okB_iff.2 ha] at hA1
  have hcl : ∀ W1, Below X.heap.size X W1 → ∀ W, Below W1.heap.size W1 W → ∀ i : Int, 0 ≤ i → i ≤ 100000 → Calls Try.prog 24 #[.int .i64 i, .pointer (some ⟨w.heap.size, 0, none⟩), .pointer (some ⟨w.heap.size + 1, 0, none⟩)] W fun e w' => e = .returned (.bool (decide (a.rate i < r))) ∧ Below W.heap.size W w' :=
    fun W1 hb1 W hb2 i h0 h1 => closure_any a ha r _ _ W (kblk hb2 (kblk hb1 hA0)) (kblk hb2 (kblk hb1 hR0)) i h0 h1
  have HA := Lib.hid hA1
  have HC := Lib.hid hcl
  have c0 := cell_of_row _ _ 0 _ _ _ hA0
  have c1 := cell_of_row _ _ 1 _ _ _ hA0
  have c2 := cell_of_row _ _ 2 _ _ _ hA0
  have c3 := cell_of_row _ _ 3 _ _ _ hA0
  have c4 := cell_of_row _ _ 4 _ _ _ hA0
  have c5 := cell_of_row _ _ 5 _ _ _ hA0
  clear hA1 hcl
  unfold Ac.v at *
  go_enter Try.func14, Try.ntmps14
  go_wp2_with (first | (go_at_call 21; go_loud (refine (HA.out _).mono ?_; rintro e w1 ⟨rfl, hb1⟩; have hR1 := kblk hb1 hR0; have d0 := cell_of_row _ _ 0 _ _ _ hR1)) | (go_at_call 18; go_loud (refine (within_any _ _ _ _).mono ?_; rintro e w2 ⟨rfl, hw2⟩; have hw2 := hw2.symm; subst hw2)) | (go_at_call 23; go_loud (refine (search_any (fun i => decide (a.rate i < r)) _ _ _ (HC.out _ hb1)).mono ?_; rintro e w3 ⟨⟨n, hn0, hn1, rfl, hlo, hhi⟩, hb3⟩; have Hlo := Lib.hid hlo; have Hhi := Lib.hid hhi; clear hlo hhi; by_cases hz : n = 0)))
  all_goals go_wp2
  all_goals
    go_ret2
    have hlo := Hlo.out
    have hhi := Hhi.out
    simp only [decide_eq_false_iff_not, decide_eq_true_eq] at hlo hhi
    refine ⟨⟨n, hn0, hn1, by omega, hhi, ?_⟩, (hb0.trans (hb1.mono hb0.size)).trans (hb3.mono (Nat.le_trans hb0.size hb1.size))⟩
  · rw [if_pos hz]; rfl
  · rw [if_neg hz]; rfl
end Go.Proofs.Ytahfmaocihlcnaa
