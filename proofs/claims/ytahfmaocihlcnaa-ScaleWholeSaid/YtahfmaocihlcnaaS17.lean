/- The walk of ScaleWhole. -/
import Derived.Test.YtahfmaocihlcnaaS16
set_option linter.unusedVariables false
set_option linter.unusedSimpArgs false
namespace Go.Proofs.Ytahfmaocihlcnaa
open Go.RowKit Go.Shelf GW Go.Proofs.YtahfmaocihlcnaaW.PrintWords Go.Proofs.YtahfmaocihlcnaaW.PrintLast Go.Proofs.YtahfmaocihlcnaaW.PrintMore
attribute [local go_sem] max_ii min_ii

theorem run_ok (a : Ac) (A : Option Addr) (c : Nat) (ys : List Yr) (w : World) (hC : Kd.C kYr w A ys.length ys) (hc : ys.length ≤ c) (h0 : errOf a ys = 0) :
    Calls Try.prog 6 #[.agg #[(Value.int .i64 a.a0), (Value.int .i64 a.a1), (Value.int .i64 a.a2), (Value.int .i64 a.a3), (Value.int .i64 a.a4), (Value.int .i64 a.a5)], .slice A ys.length c] w fun e w' => ∃ PA pc, e = .returned (.tuple #[.slice PA ys.length pc, (Value.int .i64 0)]) ∧ Kd.C kPm w' PA ys.length (paysOf a st0 ys) ∧ ys.length ≤ pc ∧
      Below w.heap.size w w' := by
  refine Calls.mono (run_any a A c ys w hC hc) ?_
  rintro e w' ⟨v, rfl, hR, hb⟩
  rw [h0, if_pos rfl] at hR
  obtain ⟨PA, pc, rfl, hl, hC'⟩ := Kd.R_reads hR
  have e1 := paysOf_length a ys st0
  rw [e1] at hC' hl hR
  exact ⟨PA, pc, by rw [h0, e1], hC', hl, hb⟩
theorem run_no (a : Ac) (A : Option Addr) (c : Nat) (ys : List Yr) (w : World) (hC : Kd.C kYr w A ys.length ys) (hc : ys.length ≤ c) (E : Int) (hE : errOf a ys = E) (h0 : E ≠ 0) :
    Calls Try.prog 6 #[.agg #[(Value.int .i64 a.a0), (Value.int .i64 a.a1), (Value.int .i64 a.a2), (Value.int .i64 a.a3), (Value.int .i64 a.a4), (Value.int .i64 a.a5)], .slice A ys.length c] w fun e w' => ∃ PA pc, e = .returned (.tuple #[.slice PA 0 pc, (Value.int .i64 E)]) ∧ Below w.heap.size w w' := by
  refine Calls.mono (run_any a A c ys w hC hc) ?_
  rintro e w' ⟨v, rfl, hR, hb⟩
  rw [hE, if_neg h0] at hR
  obtain ⟨PA, pc, rfl, _, _⟩ := Kd.R_reads hR
  exact ⟨PA, pc, by rw [hE]; rfl, hb⟩
theorem act_v (a : Ac) (w : World) : Calls Try.prog 7 #[.agg #[(Value.int .i64 a.a0), (Value.int .i64 a.a1), (Value.int .i64 a.a2), (Value.int .i64 a.a3), (Value.int .i64 a.a4), (Value.int .i64 a.a5)]] w fun e w' => e = .returned (.bool a.okB) ∧ Below w.heap.size w w' := act_any a w

set_option maxRecDepth 100000 in
set_option maxHeartbeats 4000000 in
theorem whole_big (a : Ac) (A : Option Addr) (c : Nat) (ys : List Yr) (f t wh : Int) (w : World) (hl : 24 < ys.length) :
    Calls Try.prog 3 #[.agg #[(Value.int .i64 a.a0), (Value.int .i64 a.a1), (Value.int .i64 a.a2), (Value.int .i64 a.a3), (Value.int .i64 a.a4), (Value.int .i64 a.a5)], .slice A ys.length c, .int .u8 f, .int .u8 t, .int .u8 wh] w fun e w' => e = .returned (.bool true) ∧ Below w.heap.size w w' := by
  go_enter Try.func3, Try.ntmps3
  go_wp2_with (go_at_call 5; refine (alive_any _).mono ?_; rintro e w1 ⟨rfl, hb⟩)
  go_ret
  exact ⟨rfl, ((Below.refl _ w).alloc (Nat.le_refl _) _).trans (hb.mono (by simp))⟩

set_option maxRecDepth 100000 in
set_option maxHeartbeats 4000000 in
theorem whole_no (a : Ac) (A : Option Addr) (c : Nat) (ys : List Yr) (f t wh : Int) (w : World) (hC : Kd.C kYr w A ys.length ys) (hc : ys.length ≤ c) (hl : ys.length ≤ 24) (h0 : errOf a ys ≠ 0) :
    Calls Try.prog 3 #[.agg #[(Value.int .i64 a.a0), (Value.int .i64 a.a1), (Value.int .i64 a.a2), (Value.int .i64 a.a3), (Value.int .i64 a.a4), (Value.int .i64 a.a5)], .slice A ys.length c, .int .u8 f, .int .u8 t, .int .u8 wh] w fun e w' => e = .returned (.bool true) ∧ Below w.heap.size w w' := by
  obtain ⟨E, hE⟩ : ∃ E, errOf a ys = E := ⟨_, rfl⟩
  rw [hE] at h0
  have hA0 := bk_new w (.cells #[(Value.int .i64 a.a0), (Value.int .i64 a.a1), (Value.int .i64 a.a2), (Value.int .i64 a.a3), (Value.int .i64 a.a4), (Value.int .i64 a.a5)] 23)
  have hC0 := Kd.C_alloc hC (.cells #[(Value.int .i64 a.a0), (Value.int .i64 a.a1), (Value.int .i64 a.a2), (Value.int .i64 a.a3), (Value.int .i64 a.a4), (Value.int .i64 a.a5)] 23)
  have HR := Lib.hid (run_no a A c ys _ hC0 hc E hE h0)
  have hok : decide (E = 1) = !a.okB := by
    unfold errOf at hE
    cases h : a.okB with
    | true =>
      rw [h, if_pos rfl] at hE
      have : E ≠ 1 := by
        subst hE
        split
        · decide
        · split <;> decide
      simp [this]
    | false =>
      rw [h] at hE
      simp at hE
      simp [← hE]
  have HV : ∀ w, Calls Try.prog 7 #[.agg #[(Value.int .i64 a.a0), (Value.int .i64 a.a1), (Value.int .i64 a.a2), (Value.int .i64 a.a3), (Value.int .i64 a.a4), (Value.int .i64 a.a5)]] w fun e w' => e = .returned (.bool (!decide (E = 1))) ∧ Below w.heap.size w w' := fun w => by
    have := act_v a w
    rw [hok, Bool.not_not]; exact this
  have HV := Lib.hid HV
  have Hok := Lib.hid hok
  have HE := Lib.hid hE
  clear hok hE hC hC0
  have hb0 : Below w.heap.size w (w.alloc (.cells #[(Value.int .i64 a.a0), (Value.int .i64 a.a1), (Value.int .i64 a.a2), (Value.int .i64 a.a3), (Value.int .i64 a.a4), (Value.int .i64 a.a5)] 23)) := (Below.refl _ w).alloc (Nat.le_refl _) _
  by_cases h1 : E = 1
  · subst h1
    go_enter Try.func3, Try.ntmps3
    go_wp2_with (first | (go_at_call 5; refine (alive_any _).mono ?_; rintro e w3 ⟨rfl, hb3⟩) | (go_at_call 6; refine HR.out.mono ?_; rintro e w1 ⟨PA, pc, rfl, hb1⟩; have hA1 := kblk hb1 hA0; have c0 := cell_of_row _ _ 0 _ _ _ hA1; have c1 := cell_of_row _ _ 1 _ _ _ hA1; have c2 := cell_of_row _ _ 2 _ _ _ hA1; have c3 := cell_of_row _ _ 3 _ _ _ hA1; have c4 := cell_of_row _ _ 4 _ _ _ hA1; have c5 := cell_of_row _ _ 5 _ _ _ hA1) | (go_at_call 7; refine (HV.out _).mono ?_; rintro e w2 ⟨rfl, hb2⟩))
    go_ret
    exact ⟨rfl, ((hb0.trans (hb1.mono hb0.size)).trans (hb2.mono (Nat.le_trans hb0.size hb1.size))).trans (hb3.mono (Nat.le_trans (Nat.le_trans hb0.size hb1.size) hb2.size))⟩
  · have hE1 : (E == 1) = false := by simpa using h1
    go_enter Try.func3, Try.ntmps3
    go_wp2_with (first | (go_at_call 5; refine (alive_any _).mono ?_; rintro e w3 ⟨rfl, hb3⟩) | (go_at_call 6; refine HR.out.mono ?_; rintro e w1 ⟨PA, pc, rfl, hb1⟩; have hA1 := kblk hb1 hA0; have c0 := cell_of_row _ _ 0 _ _ _ hA1; have c1 := cell_of_row _ _ 1 _ _ _ hA1; have c2 := cell_of_row _ _ 2 _ _ _ hA1; have c3 := cell_of_row _ _ 3 _ _ _ hA1; have c4 := cell_of_row _ _ 4 _ _ _ hA1; have c5 := cell_of_row _ _ 5 _ _ _ hA1) | (go_at_call 7; refine (HV.out _).mono ?_; rintro e w2 ⟨rfl, hb2⟩))
    go_ret
    exact ⟨by simp [hE1], ((hb0.trans (hb1.mono hb0.size)).trans (hb2.mono (Nat.le_trans hb0.size hb1.size))).trans (hb3.mono (Nat.le_trans (Nat.le_trans hb0.size hb1.size) hb2.size))⟩
end Go.Proofs.Ytahfmaocihlcnaa
