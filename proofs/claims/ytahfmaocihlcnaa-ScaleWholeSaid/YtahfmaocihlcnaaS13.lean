import Derived.Test.YtahfmaocihlcnaaS12
import Derived.Test.YtahfmaocihlcnaaS9
set_option linter.unusedVariables false
set_option linter.unusedSimpArgs false
namespace Go.Proofs.Ytahfmaocihlcnaa
open Go.RowKit Go.Shelf GW Go.Proofs.YtahfmaocihlcnaaW.PrintWords Go.Proofs.YtahfmaocihlcnaaW.PrintLast Go.Proofs.YtahfmaocihlcnaaW.PrintMore
attribute [local go_sem] max_ii min_ii
attribute [local go_sem high] eq32

set_option maxHeartbeats 1000000 in
theorem act_any (a : Ac) (w : World) : Calls Try.prog 7 #[a.v] w fun e w' => e = .returned (.bool a.okB) ∧ Below w.heap.size w w' := by
  unfold Ac.v Ac.okB
  generalize h0 : decide (0 ≤ a.a0 ∧ a.a0 ≤ 100000) = b0
  generalize h1 : decide (1 ≤ a.a2 ∧ a.a2 ≤ 100000) = b1
  generalize h2 : decide (0 ≤ a.a1 ∧ a.a1 ≤ 10000) = b2
  generalize h3 : decide (0 ≤ a.a3 ∧ a.a3 ≤ 10000) = b3
  generalize h4 : decide (0 ≤ a.a4 ∧ a.a4 ≤ 1099511627776) = b4
  generalize h5 : decide (0 ≤ a.a5 ∧ a.a5 ≤ 5) = b5
  have H0 := Lib.hid h0
  have H1 := Lib.hid h1
  have H2 := Lib.hid h2
  have H3 := Lib.hid h3
  have H4 := Lib.hid h4
  have H5 := Lib.hid h5
  clear h0 h1 h2 h3 h4 h5
  go_enter Try.func7, Try.ntmps7
  cases b0 with
  | false => go_wp2_with (go_at_call 17; refine (in_any _ _ _ _).mono ?_; rintro e w' ⟨rfl, hw⟩; have hw := hw.symm; subst hw; first | rw [H0.out] | rw [H1.out] | rw [H2.out] | rw [H3.out] | rw [H4.out] | rw [H5.out]); go_ret; exact ⟨by simp, (Below.refl _ w).alloc (Nat.le_refl _) _⟩
  | true =>
    cases b2 with
    | false => go_wp2_with (go_at_call 17; refine (in_any _ _ _ _).mono ?_; rintro e w' ⟨rfl, hw⟩; have hw := hw.symm; subst hw; first | rw [H0.out] | rw [H1.out] | rw [H2.out] | rw [H3.out] | rw [H4.out] | rw [H5.out]); go_ret; exact ⟨by simp, (Below.refl _ w).alloc (Nat.le_refl _) _⟩
    | true =>
      cases b1 with
      | false => go_wp2_with (go_at_call 17; refine (in_any _ _ _ _).mono ?_; rintro e w' ⟨rfl, hw⟩; have hw := hw.symm; subst hw; first | rw [H0.out] | rw [H1.out] | rw [H2.out] | rw [H3.out] | rw [H4.out] | rw [H5.out]); go_ret; exact ⟨by simp, (Below.refl _ w).alloc (Nat.le_refl _) _⟩
      | true =>
        cases b3 with
        | false => go_wp2_with (go_at_call 17; refine (in_any _ _ _ _).mono ?_; rintro e w' ⟨rfl, hw⟩; have hw := hw.symm; subst hw; first | rw [H0.out] | rw [H1.out] | rw [H2.out] | rw [H3.out] | rw [H4.out] | rw [H5.out]); go_ret; exact ⟨by simp, (Below.refl _ w).alloc (Nat.le_refl _) _⟩
        | true =>
          cases b4 with
          | false => go_wp2_with (go_at_call 17; refine (in_any _ _ _ _).mono ?_; rintro e w' ⟨rfl, hw⟩; have hw := hw.symm; subst hw; first | rw [H0.out] | rw [H1.out] | rw [H2.out] | rw [H3.out] | rw [H4.out] | rw [H5.out]); go_ret; exact ⟨by simp, (Below.refl _ w).alloc (Nat.le_refl _) _⟩
          | true => cases b5 <;> (go_wp2_with (go_at_call 17; refine (in_any _ _ _ _).mono ?_; rintro e w' ⟨rfl, hw⟩; have hw := hw.symm; subst hw; first | rw [H0.out] | rw [H1.out] | rw [H2.out] | rw [H3.out] | rw [H4.out] | rw [H5.out]); go_ret; exact ⟨by simp, (Below.refl _ w).alloc (Nat.le_refl _) _⟩)

set_option maxHeartbeats 1000000 in
theorem payments_any (A B : Option Addr) (c d : Nat) (xs ys : List Pm) (w : World) (hx : Kd.C kPm w A xs.length xs) (hy : Kd.C kPm w B ys.length ys) :
    Calls Try.prog 10 #[.slice A xs.length c, .slice B ys.length d] w fun e w' => e = .returned (.bool (decide (xs = ys))) ∧ Below w.heap.size w w' := by
  have hxl := hx.2.1
  have hyl := hy.2.1
  have HX := Lib.hid hx
  have HY := Lib.hid hy
  clear hx hy
  go_enter Try.func10, Try.ntmps10
  by_cases hl : xs.length = ys.length
  · go_wp2
    go_loopw [5] (fun i wr => ∃ k : Nat, k ≤ xs.length ∧ i = .int .i64 k ∧ xs.take k = ys.take k ∧ Below w.heap.size w wr) (fun i _ => xs.length - (intOf i).toNat)
    case atStart => exact ⟨0, Nat.zero_le _, rfl, by simp, Below.refl _ _⟩
    case round =>
      obtain ⟨k, hk, rfl, heq, hB⟩ := hrel
      have HE := Lib.hid heq
      clear heq
      by_cases hlt : k < xs.length
      · obtain ⟨x, hx⟩ : ∃ x, xs[k]? = some x := ⟨_, List.getElem?_eq_getElem hlt⟩
        obtain ⟨y, hy⟩ : ∃ y, ys[k]? = some y := ⟨_, List.getElem?_eq_getElem (by omega)⟩
        obtain ⟨ad, hA, p0, p1, p2, p3, p4, p5⟩ := pm_get (Kd.C_below HX.out hB) k x hx
        obtain ⟨bd, hBd, q0, q1, q2, q3, q4, q5⟩ := pm_get (Kd.C_below HY.out hB) k y hy
        subst hA hBd
        have hx := Lib.hid hx
        have hy := Lib.hid hy
        by_cases hxy : x = y
        · subst hxy
          go_wp2
          go_region
          all_goals go_wp2
          all_goals
            go_roundw
            case rel => exact ⟨k + 1, by omega, by go_num, by rw [List.take_add_one, List.take_add_one, HE.out, hx.out, hy.out], (by first | exact hB | exact hB.drew | exact below_drewN hB _)⟩
            case measure => simp [intOf]; omega
        · go_wp2
          go_region
          all_goals go_wp2
          all_goals
            go_ret
            refine ⟨?_, (by first | exact hB | exact hB.drew | exact below_drewN hB _)⟩
            have : xs ≠ ys := fun h => by
              have h1 := hx.out
              rw [h, hy.out] at h1
              exact hxy (Option.some.inj h1).symm
            simp [this]
      · have hk2 : k = xs.length := by omega
        subst hk2
        go_wp2
        go_ret
        refine ⟨?_, hB⟩
        have h1 := HE.out
        rw [List.take_length, hl, List.take_length] at h1
        simp [h1]
  · go_wp2
    go_ret
    refine ⟨?_, Below.refl _ _⟩
    have : xs ≠ ys := fun h => hl (by rw [h])
    simp [this]
end Go.Proofs.Ytahfmaocihlcnaa
