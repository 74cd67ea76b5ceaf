import Derived.Test.YtahfmaocihlcnaaSep
import Derived.Test.YtahfmaocihlcnaaS10
set_option linter.unusedVariables false
set_option linter.unusedSimpArgs false
namespace Go.Proofs.Ytahfmaocihlcnaa
open Go.RowKit Go.Shelf GW Go.Proofs.YtahfmaocihlcnaaW.PrintWords Go.Proofs.YtahfmaocihlcnaaW.PrintLast Go.Proofs.YtahfmaocihlcnaaW.PrintMore
attribute [local go_sem] max_ii min_ii

def Ac.rate (a : Ac) (p : Int) : Int := Proofs.Ytahfmaocihlcnaa.rate a.a0 a.a1 a.a2 a.a3 p
/-- What Rate answers. -/
def rateAns (a : Ac) (p : Int) : Int × Int := if a.okB = true then if 0 ≤ p ∧ p ≤ 100000 then (a.rate p, 0) else (0, 2) else (0, 1)

theorem rate_any (a : Ac) (p : Int) (w : World) : Calls Try.prog 13 #[a.v, .int .i64 p] w fun e w' => e = .returned (.tuple #[.int .i64 (rateAns a p).1, .int .i64 (rateAns a p).2]) ∧ Below w.heap.size w w' := by
  obtain ⟨r1, hr1⟩ : ∃ r, r = (rateAns a p).1 := ⟨_, rfl⟩
  obtain ⟨r2, hr2⟩ : ∃ r, r = (rateAns a p).2 := ⟨_, rfl⟩
  rw [← hr1, ← hr2]
  have R1 := Lib.hid hr1
  have R2 := Lib.hid hr2
  clear hr1 hr2
  have hb0 : Below w.heap.size w (w.alloc (.cells #[.int .i64 a.a0, .int .i64 a.a1, .int .i64 a.a2, .int .i64 a.a3, .int .i64 a.a4, .int .i64 a.a5] 23)) := (Below.refl _ w).alloc (Nat.le_refl _) _
  have hA0 := bk_new w (.cells #[.int .i64 a.a0, .int .i64 a.a1, .int .i64 a.a2, .int .i64 a.a3, .int .i64 a.a4, .int .i64 a.a5] 23)
  have hA1 := fun w => isAct_any a w
  unfold Ac.v at *
  obtain ⟨b, hb⟩ : ∃ b, b = a.okB := ⟨_, rfl⟩
  rw [← hb] at hA1
  have HB := Lib.hid hb
  have HA := Lib.hid hA1
  clear hb hA1
  go_enter Try.func13, Try.ntmps13
  cases b with
  | false =>
    go_wp2_with (first | (go_at_call 21; go_loud (refine (HA.out _).mono ?_; rintro e w1 ⟨rfl, hb1⟩; have hA1 := kblk hb1 hA0; have c0 := cell_of_row _ _ 0 _ _ _ hA1; have c1 := cell_of_row _ _ 1 _ _ _ hA1; have c2 := cell_of_row _ _ 2 _ _ _ hA1; have c3 := cell_of_row _ _ 3 _ _ _ hA1; have c4 := cell_of_row _ _ 4 _ _ _ hA1; have c5 := cell_of_row _ _ 5 _ _ _ hA1)) | (go_at_call 18; go_loud (refine (within_any _ _ _ _).mono ?_; rintro e w2 ⟨rfl, hw2⟩; have hw2 := hw2.symm; subst hw2)) | (go_at_call 22; go_loud (refine (rateOf_any hok _ _ hp.1 hp.2).mono ?_; rintro e w3 ⟨rfl, hb3⟩)))
    have e : rateAns a p = (0, 1) := by unfold rateAns; rw [← HB.out]; rfl
    rw [e] at R1 R2
    go_ret2
    exact ⟨by rw [R1.out, R2.out]; rfl, hb0.trans (hb1.mono hb0.size)⟩
  | true =>
    have hok : a.ok := a.okB_iff.1 HB.out.symm
    have Hok := Lib.hid hok
    clear hok
    by_cases hp : 0 ≤ p ∧ p ≤ 100000
    · have hok := Hok.out
      go_wp2_with (first | (go_at_call 21; go_loud (refine (HA.out _).mono ?_; rintro e w1 ⟨rfl, hb1⟩; have hA1 := kblk hb1 hA0; have c0 := cell_of_row _ _ 0 _ _ _ hA1; have c1 := cell_of_row _ _ 1 _ _ _ hA1; have c2 := cell_of_row _ _ 2 _ _ _ hA1; have c3 := cell_of_row _ _ 3 _ _ _ hA1; have c4 := cell_of_row _ _ 4 _ _ _ hA1; have c5 := cell_of_row _ _ 5 _ _ _ hA1)) | (go_at_call 18; go_loud (refine (within_any _ _ _ _).mono ?_; rintro e w2 ⟨rfl, hw2⟩; have hw2 := hw2.symm; subst hw2)) | (go_at_call 22; go_loud (refine (rateOf_any hok _ _ hp.1 hp.2).mono ?_; rintro e w3 ⟨rfl, hb3⟩)))
      have e : rateAns a p = (a.rate p, 0) := by unfold rateAns; rw [← HB.out, if_pos rfl, if_pos hp]
      rw [e] at R1 R2
      go_ret2
      exact ⟨by rw [R1.out, R2.out]; rfl, (hb0.trans (hb1.mono hb0.size)).trans (hb3.mono (Nat.le_trans hb0.size hb1.size))⟩
    · have hok := Hok.out
      go_wp2_with (first | (go_at_call 21; go_loud (refine (HA.out _).mono ?_; rintro e w1 ⟨rfl, hb1⟩; have hA1 := kblk hb1 hA0; have c0 := cell_of_row _ _ 0 _ _ _ hA1; have c1 := cell_of_row _ _ 1 _ _ _ hA1; have c2 := cell_of_row _ _ 2 _ _ _ hA1; have c3 := cell_of_row _ _ 3 _ _ _ hA1; have c4 := cell_of_row _ _ 4 _ _ _ hA1; have c5 := cell_of_row _ _ 5 _ _ _ hA1)) | (go_at_call 18; go_loud (refine (within_any _ _ _ _).mono ?_; rintro e w2 ⟨rfl, hw2⟩; have hw2 := hw2.symm; subst hw2)) | (go_at_call 22; go_loud (refine (rateOf_any hok _ _ hp.1 hp.2).mono ?_; rintro e w3 ⟨rfl, hb3⟩)))
      have e : rateAns a p = (0, 2) := by unfold rateAns; rw [← HB.out, if_pos rfl, if_neg hp]
      rw [e] at R1 R2
      go_ret2
      exact ⟨by rw [R1.out, R2.out]; rfl, hb0.trans (hb1.mono hb0.size)⟩

set_option maxHeartbeats 1000000 in
theorem search_any (q : Int → Bool) (b1 b2 : Nat) (w : World)
    (hcl : ∀ W, Below w.heap.size w W → ∀ i : Int, 0 ≤ i → i ≤ 100000 → Calls Try.prog 24 #[.int .i64 i, .pointer (some ⟨b1, 0, none⟩), .pointer (some ⟨b2, 0, none⟩)] W fun e w' => e = .returned (.bool (q i)) ∧ Below W.heap.size W w') :
    Calls Try.prog 23 #[.int .i64 100001, .func (.func 24) #[] #[.pointer (some ⟨b1, 0, none⟩), .pointer (some ⟨b2, 0, none⟩)]] w fun e w' =>
      (∃ n : Int, 0 ≤ n ∧ n ≤ 100001 ∧ e = .returned (.int .i64 n) ∧ (n = 0 ∨ q (n - 1) = false) ∧ (n = 100001 ∨ q n = true)) ∧ Below w.heap.size w w' := by
  have Hcl := Lib.hid hcl
  clear hcl
  go_enter Try.func23, Try.ntmps23
  go_wp2
  go_loopw [5, 6] (fun lo hi wr => ∃ i j : Int, 0 ≤ i ∧ i ≤ j ∧ j ≤ 100001 ∧ lo = .int .i64 i ∧ hi = .int .i64 j ∧ (i = 0 ∨ q (i - 1) = false) ∧ (j = 100001 ∨ q j = true) ∧ Below w.heap.size w wr) (fun lo hi _ => (intOf hi - intOf lo).toNat)
  case atStart => exact ⟨0, 100001, by omega, by omega, by omega, rfl, rfl, .inl rfl, .inl rfl, Below.refl _ _⟩
  case round =>
    obtain ⟨i, j, h0, hij, hj, rfl, rfl, hlo, hhi, hB⟩ := hrel
    have Hlo := Lib.hid hlo
    have Hhi := Lib.hid hhi
    clear hlo hhi
    by_cases hlt : i < j
    · obtain ⟨m, hm⟩ : ∃ m, m = (i + j) / 2 := ⟨_, rfl⟩
      have hm1 : i ≤ m ∧ m < j := by omega
      have HM := Lib.hid hm
      clear hm
      cases hq : q m with
      | true =>
        have HQ := Lib.hid hq
        clear hq
        go_wp2_with (go_at_call 24; rw [← HM.out]; refine (Hcl.out _ hB m (by omega) (by omega)).mono ?_; rintro e w1 ⟨rfl, hb1⟩; rw [HQ.out])
        go_roundw
        case rel => exact ⟨i, m, h0, hm1.1, by omega, rfl, by rw [HM.out], Hlo.out, .inr HQ.out, hB.trans (hb1.mono hB.size)⟩
        case measure => simp [intOf]; have := HM.out; omega
      | false =>
        have HQ := Lib.hid hq
        clear hq
        go_wp2_with (go_at_call 24; rw [← HM.out]; refine (Hcl.out _ hB m (by omega) (by omega)).mono ?_; rintro e w1 ⟨rfl, hb1⟩; rw [HQ.out])
        go_roundw
        case rel => exact ⟨m + 1, j, by omega, by omega, by omega, by rw [HM.out], rfl, .inr (by rw [show m + 1 - 1 = m by omega]; exact HQ.out), Hhi.out, hB.trans (hb1.mono hB.size)⟩
        case measure => simp [intOf]; have := HM.out; omega
    · obtain rfl : i = j := by omega
      go_wp2
      go_ret
      exact ⟨⟨i, h0, hj, rfl, Hlo.out, Hhi.out⟩, hB⟩

theorem closure_any (a : Ac) (ha : a.ok) (r : Int) (b1 b2 : Nat) (w : World) (h1 : w.heap[b1]? = some (.cells #[.int .i64 a.a0, .int .i64 a.a1, .int .i64 a.a2, .int .i64 a.a3, .int .i64 a.a4, .int .i64 a.a5] 23 (0, 0)))
    (h2 : w.heap[b2]? = some (.cells #[.int .i64 r] 3 (0, 0))) (i : Int) (hi0 : 0 ≤ i) (hi1 : i ≤ 100000) :
    Calls Try.prog 24 #[.int .i64 i, .pointer (some ⟨b1, 0, none⟩), .pointer (some ⟨b2, 0, none⟩)] w fun e w' => e = .returned (.bool (decide (a.rate i < r))) ∧ Below w.heap.size w w' := by
  obtain ⟨rr, hrr⟩ : ∃ rr, rr = a.rate i := ⟨_, rfl⟩
  rw [← hrr]
  have RR := Lib.hid hrr
  clear hrr
  have hat := fun w => rateOf_any ha i w hi0 hi1
  have HAT := Lib.hid hat
  clear hat
  go_enter Try.func24, Try.ntmps24
  go_wp2_with fail
  refine wp_region_sep [5] [] [some 5, some 6, some 7, some 8, some 9, none] [_] [none, none, none, none, none, some (fun _ _ => True)]
    (fun W => W.heap[b1]? = some (.cells #[.int .i64 a.a0, .int .i64 a.a1, .int .i64 a.a2, .int .i64 a.a3, .int .i64 a.a4, .int .i64 a.a5] 23 (0, 0)) ∧ W.cell? ⟨b1, 0, none⟩ = some (.int .i64 a.a0) ∧ W.cell? ⟨b1, 1, none⟩ = some (.int .i64 a.a1) ∧ W.cell? ⟨b1, 2, none⟩ = some (.int .i64 a.a2) ∧ W.cell? ⟨b1, 3, none⟩ = some (.int .i64 a.a3) ∧ W.cell? ⟨b1, 4, none⟩ = some (.int .i64 a.a4) ∧ W.cell? ⟨b1, 5, none⟩ = some (.int .i64 a.a5) ∧ W.heap[b2]? = some (.cells #[.int .i64 r] 3 (0, 0)) ∧ W.cell? ⟨b2, 0, none⟩ = some (.int .i64 r))
    (by kernel_rfl) (by kernel_rfl) (by kernel_rfl) rfl rfl (by kernel_rfl) (fun _ d _ _ _ h => by cases d <;> exact h) ?hS (fun W W' ⟨h1, h1_0, h1_1, h1_2, h1_3, h1_4, h1_5, h2, h2_0⟩ hb => ⟨kblk hb h1, kcell hb h1_0, kcell hb h1_1, kcell hb h1_2, kcell hb h1_3, kcell hb h1_4, kcell hb h1_5, kblk hb h2, kcell hb h2_0⟩) ?_
  case hS =>
    refine ⟨?_, ?_, ?_, ?_, ?_, ?_, ?_, ?_, ?_⟩
    · exact h1
    · exact cell_of_row _ _ 0 _ _ _ h1
    · exact cell_of_row _ _ 1 _ _ _ h1
    · exact cell_of_row _ _ 2 _ _ _ h1
    · exact cell_of_row _ _ 3 _ _ _ h1
    · exact cell_of_row _ _ 4 _ _ _ h1
    · exact cell_of_row _ _ 5 _ _ _ h1
    · exact h2
    · exact cell_of_row _ _ 0 _ _ _ h2
  simp only [exN]
  repeat apply Exists.intro
  refine ⟨?_, ?_⟩
  · -- the operations
    refine ⟨?_, ?_⟩
    · rintro x W ⟨h1, h1_0, h1_1, h1_2, h1_3, h1_4, h1_5, h2, h2_0⟩ Q hQ; change wpList _ _ _ _ (Act.mk #[_, _, _, _, _, _, _, _, _, _] _) _; go_wp2; refine ⟨rfl, rfl, ?_, rfl⟩; first | exact Below.refl _ _ | assumption | exact below_drewN (Below.refl _ _) _
    refine ⟨?_, ?_⟩
    · rintro x W ⟨h1, h1_0, h1_1, h1_2, h1_3, h1_4, h1_5, h2, h2_0⟩ Q hQ; change wpList _ _ _ _ (Act.mk #[_, _, _, _, _, _, _, _, _, _] _) _; go_wp2; refine ⟨rfl, rfl, ?_, rfl⟩; first | exact Below.refl _ _ | assumption | exact below_drewN (Below.refl _ _) _
    refine ⟨?_, ?_⟩
    · rintro x W ⟨h1, h1_0, h1_1, h1_2, h1_3, h1_4, h1_5, h2, h2_0⟩ Q hQ; change wpList _ _ _ _ (Act.mk #[_, _, _, _, _, _, _, _, _, _] _) _; go_wp2_with (first | (go_at_call 22; refine (HAT.out _).mono ?_; rintro e w' ⟨rfl, hb1⟩; rw [show Proofs.Ytahfmaocihlcnaa.rate a.a0 a.a1 a.a2 a.a3 i = rr from RR.out.symm])); refine ⟨rfl, rfl, ?_, rfl⟩; first | exact Below.refl _ _ | assumption | exact below_drewN (Below.refl _ _) _
    refine ⟨?_, ?_⟩
    · rintro x W ⟨h1, h1_0, h1_1, h1_2, h1_3, h1_4, h1_5, h2, h2_0⟩ Q hQ; change wpList _ _ _ _ (Act.mk #[_, _, _, _, _, _, _, _, _, _] _) _; go_wp2; refine ⟨rfl, rfl, ?_, rfl⟩; first | exact Below.refl _ _ | assumption | exact below_drewN (Below.refl _ _) _
    refine ⟨?_, ?_⟩
    · rintro x W ⟨h1, h1_0, h1_1, h1_2, h1_3, h1_4, h1_5, h2, h2_0⟩ Q hQ; change wpList _ _ _ _ (Act.mk #[_, _, _, _, _, _, _, _, _, _] _) _; go_wp2; refine ⟨rfl, rfl, ?_, rfl⟩; first | exact Below.refl _ _ | assumption | exact below_drewN (Below.refl _ _) _
    trivial
  intro x W hS_ hb
  obtain ⟨h1, h1_0, h1_1, h1_2, h1_3, h1_4, h1_5, h2, h2_0⟩ := hS_
  change wpList _ _ _ _ _ _
  simp only [overlay, pairs, GW.look, if_true, if_false]
  go_wp2
  go_ret
  exact ⟨rfl, hb⟩

/-- The rate falls, or stays, as the price rises. -/
theorem rate_anti {a : Ac} (ha : a.ok) {p p' : Int} (h : p ≤ p') : a.rate p' ≤ a.rate p := by
  have h2 := ha.s0
  have h3 := ha.g0
  have hs : steps a.a0 a.a2 p' ≤ steps a.a0 a.a2 p := by
    have key : ∀ x, steps a.a0 a.a2 x = (a.a0 - x) / a.a2 := by
      intro x
      unfold steps
      split
      · rfl
      · rename_i hx
        have h1 : (x - a.a0 + a.a2 - 1) / a.a2 = -((a.a0 - x) / a.a2) := by
          apply Int.le_antisymm
          · apply Int.le_of_lt_add_one
            apply Int.ediv_lt_of_lt_mul (by omega)
            have h := Int.mul_ediv_add_emod (a.a0 - x) a.a2
            have h' := Int.emod_nonneg (a.a0 - x) (show a.a2 ≠ 0 by omega)
            have h'' := Int.emod_lt_of_pos (a.a0 - x) (show 0 < a.a2 by omega)
            have : (-((a.a0 - x) / a.a2) + 1) * a.a2 = a.a2 - a.a2 * ((a.a0 - x) / a.a2) := by rw [Int.add_mul, Int.neg_mul, Int.mul_comm]; omega
            omega
          · apply Int.le_ediv_of_mul_le (by omega)
            have h := Int.mul_ediv_add_emod (a.a0 - x) a.a2
            have h' := Int.emod_nonneg (a.a0 - x) (show a.a2 ≠ 0 by omega)
            have h'' := Int.emod_lt_of_pos (a.a0 - x) (show 0 < a.a2 by omega)
            have : -((a.a0 - x) / a.a2) * a.a2 = -(a.a2 * ((a.a0 - x) / a.a2)) := by rw [Int.neg_mul, Int.mul_comm]
            omega
        rw [h1]; omega
    rw [key, key]
    exact Int.ediv_le_ediv (by omega) (by omega)
  have hm := Int.mul_le_mul_of_nonneg_left hs h3
  unfold Ac.rate Proofs.Ytahfmaocihlcnaa.rate
  omega
end Go.Proofs.Ytahfmaocihlcnaa
