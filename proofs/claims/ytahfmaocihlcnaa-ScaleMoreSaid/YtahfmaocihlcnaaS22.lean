/- The walk of ScaleMore. -/
import Derived.Outline
import Derived.Test.YtahfmaocihlcnaaS21
set_option linter.unusedVariables false
set_option linter.unusedSimpArgs false
namespace Go.Proofs.Ytahfmaocihlcnaa
open Go.RowKit Go.Shelf GW Go.Proofs.YtahfmaocihlcnaaW.PrintWords Go.Proofs.YtahfmaocihlcnaaW.PrintLast Go.Proofs.YtahfmaocihlcnaaW.PrintMore
attribute [local go_sem] max_ii min_ii
attribute [local go_sem high] eq32

theorem errOf_take {a : Ac} {ys : List Yr} (h : errOf a ys = 0) (k : Nat) : errOf a (ys.take k) = 0 := by
  obtain ⟨ha, hl, hys⟩ := errOf_zero h
  have hok := a.okB_iff.2 ha
  unfold errOf
  rw [if_pos hok, List.length_take, if_neg (by omega), if_neg]
  intro hb
  obtain ⟨z, hz, hbz⟩ := List.any_eq_true.1 hb
  have := (badB_iff z).2 (hys z (List.mem_of_mem_take hz))
  rw [this] at hbz
  cases hbz
theorem owed_law {a : Ac} {ys : List Yr} {k : Nat} {y : Yr} (hk : ys[k]? = some y) :
    ∃ p, (paysOf a st0 ys)[k]? = some p ∧ p.due = dueOf a.a0 a.a1 a.a2 a.a3 y.price y.cap ∧ p.paid = paidOf p.due (stOf a st0 (ys.take k)).arr.sum ((stOf a st0 (ys.take k)).bal + y.profit) ∧
      (k = 0 → (stOf a st0 (ys.take k)).arr.sum = 0) ∧ (∀ p', 0 < k → (paysOf a st0 ys)[k - 1]? = some p' → p'.arrears = (stOf a st0 (ys.take k)).arr.sum) := by
  refine ⟨_, paysOf_get a ys st0 k y hk, rfl, rfl, fun h => by subst h; simp [stOf, st0], fun p' h0 hp => ?_⟩
  have hkl := (List.getElem?_eq_some_iff.1 hk).1
  have hz : ys[k - 1]? = some ys[k - 1] := List.getElem?_eq_getElem (by omega)
  rw [paysOf_get a ys st0 (k - 1) _ hz] at hp
  have hp := Option.some.inj hp
  subst hp
  obtain ⟨m, rfl⟩ : ∃ m, k = m + 1 := ⟨k - 1, by omega⟩
  rw [List.take_add_one, show ys[m]? = some ys[m] from hz, Option.toList_some, stOf_snoc]
  rfl

def maxs : Nat := 0
set_option maxRecDepth 100000 in
set_option maxHeartbeats 4000000 in
theorem more_big (a : Ac) (A : Option Addr) (c : Nat) (ys : List Yr) (wh by' : Int) (w : World) (hl : 24 < ys.length ∨ ys.length = 0) :
    Calls Try.prog 4 #[.agg #[(Value.int .i64 a.a0), (Value.int .i64 a.a1), (Value.int .i64 a.a2), (Value.int .i64 a.a3), (Value.int .i64 a.a4), (Value.int .i64 a.a5)], .slice A ys.length c, .int .u8 wh, .int .u32 by'] w fun e w' => e = .returned (.bool true) ∧ Below w.heap.size w w' := by
  by_cases h1 : 24 < ys.length
  · have h1' : decide (24 < (ys.length : Int)) = true := by simp; omega
    have h2 : ((ys.length : Int) == 0) = false := by rw [beq_eq_false_iff_ne]; omega
    clear hl
    go_enter Try.func4, Try.ntmps4
    go_wp2_with (go_at_call 5; refine (alive_any _).mono ?_; rintro e w1 ⟨rfl, hb⟩)
    go_ret
    exact ⟨rfl, (((Below.refl _ w).alloc (Nat.le_refl _) _).alloc (by simp) _).trans (hb.mono (by simp; omega))⟩
  · have h2 : ((ys.length : Int) == 0) = true := by simp; have : ys.length = 0 := by omega
                                                    exact List.eq_nil_of_length_eq_zero this
    have h1' : decide (24 < (ys.length : Int)) = false := by simp; omega
    clear hl
    go_enter Try.func4, Try.ntmps4
    go_wp2_with (go_at_call 5; refine (alive_any _).mono ?_; rintro e w1 ⟨rfl, hb⟩)
    go_ret
    exact ⟨rfl, (((Below.refl _ w).alloc (Nat.le_refl _) _).alloc (by simp) _).trans (hb.mono (by simp; omega))⟩
set_option maxRecDepth 100000 in
set_option maxHeartbeats 4000000 in
theorem more_no (a : Ac) (A : Option Addr) (c : Nat) (ys : List Yr) (wh by' : Int) (w : World) (hC : Kd.C kYr w A ys.length ys) (hc : ys.length ≤ c) (hl : ys.length ≤ 24) (hl0 : 0 < ys.length) (h0 : errOf a ys ≠ 0) :
    Calls Try.prog 4 #[.agg #[(Value.int .i64 a.a0), (Value.int .i64 a.a1), (Value.int .i64 a.a2), (Value.int .i64 a.a3), (Value.int .i64 a.a4), (Value.int .i64 a.a5)], .slice A ys.length c, .int .u8 wh, .int .u32 by'] w fun e w' => e = .returned (.bool true) ∧ Below w.heap.size w w' := by
  obtain ⟨E, hE⟩ : ∃ E, errOf a ys = E := ⟨_, rfl⟩
  rw [hE] at h0
  have hC0 := Kd.C_alloc (Kd.C_alloc hC (.cells #[(Value.int .i64 a.a0), (Value.int .i64 a.a1), (Value.int .i64 a.a2), (Value.int .i64 a.a3), (Value.int .i64 a.a4), (Value.int .i64 a.a5)] 23)) (.cells #[.slice A ys.length c] 24)
  have HR := Lib.hid (run_no a A c ys _ hC0 hc E hE h0)
  have HE := Lib.hid hE
  clear hE hC hC0
  have h2 : ((ys.length : Int) == 0) = false := by rw [beq_eq_false_iff_ne]; omega
  have h3 : (E == 0) = false := by rw [beq_eq_false_iff_ne]; exact h0
  have hb0 : Below w.heap.size w ((w.alloc (.cells #[(Value.int .i64 a.a0), (Value.int .i64 a.a1), (Value.int .i64 a.a2), (Value.int .i64 a.a3), (Value.int .i64 a.a4), (Value.int .i64 a.a5)] 23)).alloc (.cells #[.slice A ys.length c] 24)) := ((Below.refl _ w).alloc (Nat.le_refl _) _).alloc (by simp) _
  go_enter Try.func4, Try.ntmps4
  go_wp2_with (first | (go_at_call 5; refine (alive_any _).mono ?_; rintro e w3 ⟨rfl, hb3⟩) | (go_at_call 6; refine HR.out.mono ?_; rintro e w1 ⟨PA, pc, rfl, hb1⟩))
  go_ret
  exact ⟨rfl, (hb0.trans (hb1.mono hb0.size)).trans (hb3.mono (Nat.le_trans hb0.size hb1.size))⟩
end Go.Proofs.Ytahfmaocihlcnaa
