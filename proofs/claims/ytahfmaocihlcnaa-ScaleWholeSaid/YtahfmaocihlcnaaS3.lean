/- What a year comes to. -/
import Derived.Test.YtahfmaocihlcnaaS2
set_option linter.unusedVariables false
set_option linter.unusedSimpArgs false
namespace Go.Proofs.Ytahfmaocihlcnaa
open Go.RowKit GW Go.Proofs.YtahfmaocihlcnaaW.PrintWords Go.Proofs.YtahfmaocihlcnaaW.PrintLast Go.Proofs.YtahfmaocihlcnaaW.PrintMore
attribute [local go_sem] max_ii min_ii

/-- What is due in a year. -/
def dueOf (a0 a1 a2 a3 price cap : Int) : Int := cap * rate a0 a1 a2 a3 price / 10000
theorem dueOf_bd (a0 a1 a2 a3 price cap : Int) (h0 : 0 ≤ cap) (h1 : cap ≤ 1099511627776) :
    0 ≤ cap * rate a0 a1 a2 a3 price ∧ cap * rate a0 a1 a2 a3 price ≤ 1099511627776 * 10000 ∧ 0 ≤ dueOf a0 a1 a2 a3 price cap ∧ dueOf a0 a1 a2 a3 price cap ≤ 1099511627776 := by
  obtain ⟨r0, r1⟩ := rate_bd a0 a1 a2 a3 price
  have h2 : 0 ≤ cap * rate a0 a1 a2 a3 price := Int.mul_nonneg h0 r0
  have h3 : cap * rate a0 a1 a2 a3 price ≤ 1099511627776 * 10000 := Int.mul_le_mul h1 r1 r0 (by omega)
  unfold dueOf
  omega

set_option maxHeartbeats 1600000 in
theorem due_any {a0 a1 a2 a3 a4 a5 : Int} (H : ActOk a0 a1 a2 a3 a4 a5) (g : Nat) (bal price cap profit : Int) (sl : Value) (w : World)
    (hg : w.heap[g]? = some (.cells #[.int .i64 a0, .int .i64 a1, .int .i64 a2, .int .i64 a3, .int .i64 a4, .int .i64 a5, .int .i64 bal, sl] 54 (0, 0)))
    (hp0 : 0 ≤ price) (hp1 : price ≤ 100000) (hc0 : 0 ≤ cap) (hc1 : cap ≤ 1099511627776) :
    Calls Try.prog 19 #[.pointer (some ⟨g, 0, none⟩), .agg #[.int .i64 price, .int .i64 cap, .int .i64 profit]] w fun e w' =>
      e = .returned (.int .i64 (dueOf a0 a1 a2 a3 price cap)) ∧ Below w.heap.size w w' := by
  obtain ⟨hb0, hb1, hb2, hb3⟩ := dueOf_bd a0 a1 a2 a3 price cap hc0 hc1
  have hlt := bk_lt hg
  have hd : dueOf a0 a1 a2 a3 price cap = cap * rate a0 a1 a2 a3 price / 10000 := rfl
  generalize dueOf a0 a1 a2 a3 price cap = dd at *
  have HD := Lib.hid hd
  clear hd
  go_enter Try.func19, Try.ntmps19
  go_wp2
  have hy := bk_new w (.cells #[.int .i64 price, .int .i64 cap, .int .i64 profit] 34)
  have hg := bk_alloc hg (.cells #[.int .i64 price, .int .i64 cap, .int .i64 profit] 34)
  refine wp_region_sep [11] [] [some 5, some 6, some 7, some 8, some 9, some 10, some 11, some 12, some 13, some 14, some 15, none] [_] [none, none, none, none, none, none, none, none, none, none, none, some (fun _ _ => True)]
    (fun W => W.heap[g]? = some (.cells #[.int .i64 a0, .int .i64 a1, .int .i64 a2, .int .i64 a3, .int .i64 a4, .int .i64 a5, .int .i64 bal, sl] 54 (0, 0)) ∧ W.cell? ⟨g, 0, none⟩ = some (.int .i64 a0) ∧ W.cell? ⟨g, 1, none⟩ = some (.int .i64 a1) ∧ W.cell? ⟨g, 2, none⟩ = some (.int .i64 a2) ∧ W.cell? ⟨g, 3, none⟩ = some (.int .i64 a3) ∧ W.cell? ⟨g, 4, none⟩ = some (.int .i64 a4) ∧ W.cell? ⟨g, 5, none⟩ = some (.int .i64 a5) ∧ W.heap[w.heap.size]? = some (.cells #[.int .i64 price, .int .i64 cap, .int .i64 profit] 34 (0, 0)) ∧ W.cell? ⟨w.heap.size, 0, none⟩ = some (.int .i64 price) ∧ W.cell? ⟨w.heap.size, 1, none⟩ = some (.int .i64 cap) ∧ W.cell? ⟨w.heap.size, 2, none⟩ = some (.int .i64 profit))
    (by kernel_rfl) (by kernel_rfl) (by kernel_rfl) rfl rfl (by kernel_rfl) (fun _ d _ _ _ h => by cases d <;> exact h) ?hS (fun W W' ⟨hg, hg_0, hg_1, hg_2, hg_3, hg_4, hg_5, hy, hy_0, hy_1, hy_2⟩ hb => ⟨kblk hb hg, kcell hb hg_0, kcell hb hg_1, kcell hb hg_2, kcell hb hg_3, kcell hb hg_4, kcell hb hg_5, kblk hb hy, kcell hb hy_0, kcell hb hy_1, kcell hb hy_2⟩) ?_
  case hS =>
    refine ⟨?_, ?_, ?_, ?_, ?_, ?_, ?_, ?_, ?_, ?_, ?_⟩
    · exact hg
    · exact cell_of_row _ _ 0 _ _ _ hg
    · exact cell_of_row _ _ 1 _ _ _ hg
    · exact cell_of_row _ _ 2 _ _ _ hg
    · exact cell_of_row _ _ 3 _ _ _ hg
    · exact cell_of_row _ _ 4 _ _ _ hg
    · exact cell_of_row _ _ 5 _ _ _ hg
    · exact hy
    · exact cell_of_row _ _ 0 _ _ _ hy
    · exact cell_of_row _ _ 1 _ _ _ hy
    · exact cell_of_row _ _ 2 _ _ _ hy
  simp only [exN]
  repeat apply Exists.intro
  refine ⟨?_, ?_⟩
  · -- the operations
    refine ⟨?_, ?_⟩
    · rintro x W ⟨hg, hg_0, hg_1, hg_2, hg_3, hg_4, hg_5, hy, hy_0, hy_1, hy_2⟩ Q hQ; change wpList _ _ _ _ (Act.mk #[_, _, _, _, _, _, _, _, _, _, _, _, _, _, _, _] _) _; go_wp2; refine ⟨rfl, rfl, ?_, rfl⟩; first | exact Below.refl _ _ | assumption | exact below_drewN (Below.refl _ _) _
    refine ⟨?_, ?_⟩
    · rintro x W ⟨hg, hg_0, hg_1, hg_2, hg_3, hg_4, hg_5, hy, hy_0, hy_1, hy_2⟩ Q hQ; change wpList _ _ _ _ (Act.mk #[_, _, _, _, _, _, _, _, _, _, _, _, _, _, _, _] _) _; go_wp2; refine ⟨rfl, rfl, ?_, rfl⟩; first | exact Below.refl _ _ | assumption | exact below_drewN (Below.refl _ _) _
    refine ⟨?_, ?_⟩
    · rintro x W ⟨hg, hg_0, hg_1, hg_2, hg_3, hg_4, hg_5, hy, hy_0, hy_1, hy_2⟩ Q hQ; change wpList _ _ _ _ (Act.mk #[_, _, _, _, _, _, _, _, _, _, _, _, _, _, _, _] _) _; go_wp2; refine ⟨rfl, rfl, ?_, rfl⟩; first | exact Below.refl _ _ | assumption | exact below_drewN (Below.refl _ _) _
    refine ⟨?_, ?_⟩
    · rintro x W ⟨hg, hg_0, hg_1, hg_2, hg_3, hg_4, hg_5, hy, hy_0, hy_1, hy_2⟩ Q hQ; change wpList _ _ _ _ (Act.mk #[_, _, _, _, _, _, _, _, _, _, _, _, _, _, _, _] _) _; go_wp2; refine ⟨rfl, rfl, ?_, rfl⟩; first | exact Below.refl _ _ | assumption | exact below_drewN (Below.refl _ _) _
    refine ⟨?_, ?_⟩
    · rintro x W ⟨hg, hg_0, hg_1, hg_2, hg_3, hg_4, hg_5, hy, hy_0, hy_1, hy_2⟩ Q hQ; change wpList _ _ _ _ (Act.mk #[_, _, _, _, _, _, _, _, _, _, _, _, _, _, _, _] _) _; go_wp2; refine ⟨rfl, rfl, ?_, rfl⟩; first | exact Below.refl _ _ | assumption | exact below_drewN (Below.refl _ _) _
    refine ⟨?_, ?_⟩
    · rintro x W ⟨hg, hg_0, hg_1, hg_2, hg_3, hg_4, hg_5, hy, hy_0, hy_1, hy_2⟩ Q hQ; change wpList _ _ _ _ (Act.mk #[_, _, _, _, _, _, _, _, _, _, _, _, _, _, _, _] _) _; go_wp2; refine ⟨rfl, rfl, ?_, rfl⟩; first | exact Below.refl _ _ | assumption | exact below_drewN (Below.refl _ _) _
    refine ⟨?_, ?_⟩
    · rintro x W ⟨hg, hg_0, hg_1, hg_2, hg_3, hg_4, hg_5, hy, hy_0, hy_1, hy_2⟩ Q hQ; change wpList _ _ _ _ (Act.mk #[_, _, _, _, _, _, _, _, _, _, _, _, _, _, _, _] _) _; go_wp2; refine ⟨rfl, rfl, ?_, rfl⟩; first | exact Below.refl _ _ | assumption | exact below_drewN (Below.refl _ _) _
    refine ⟨?_, ?_⟩
    · rintro x W ⟨hg, hg_0, hg_1, hg_2, hg_3, hg_4, hg_5, hy, hy_0, hy_1, hy_2⟩ Q hQ; change wpList _ _ _ _ (Act.mk #[_, _, _, _, _, _, _, _, _, _, _, _, _, _, _, _] _) _; go_wp2; refine ⟨rfl, rfl, ?_, rfl⟩; first | exact Below.refl _ _ | assumption | exact below_drewN (Below.refl _ _) _
    refine ⟨?_, ?_⟩
    · rintro x W ⟨hg, hg_0, hg_1, hg_2, hg_3, hg_4, hg_5, hy, hy_0, hy_1, hy_2⟩ Q hQ; change wpList _ _ _ _ (Act.mk #[_, _, _, _, _, _, _, _, _, _, _, _, _, _, _, _] _) _; go_wp2_with (first | (go_at_call 22; refine (rateOf_any H _ _ hp0 hp1).mono ?_; rintro e w' ⟨rfl, hb1⟩)); refine ⟨rfl, rfl, ?_, rfl⟩; first | exact Below.refl _ _ | assumption | exact below_drewN (Below.refl _ _) _
    refine ⟨?_, ?_⟩
    · rintro x W ⟨hg, hg_0, hg_1, hg_2, hg_3, hg_4, hg_5, hy, hy_0, hy_1, hy_2⟩ Q hQ; change wpList _ _ _ _ (Act.mk #[_, _, _, _, _, _, _, _, _, _, _, _, _, _, _, _] _) _; go_wp2; refine ⟨rfl, rfl, ?_, rfl⟩; first | exact Below.refl _ _ | assumption | exact below_drewN (Below.refl _ _) _
    refine ⟨?_, ?_⟩
    · rintro x W ⟨hg, hg_0, hg_1, hg_2, hg_3, hg_4, hg_5, hy, hy_0, hy_1, hy_2⟩ Q hQ; change wpList _ _ _ _ (Act.mk #[_, _, _, _, _, _, _, _, _, _, _, _, _, _, _, _] _) _; go_wp2; refine ⟨rfl, rfl, ?_, rfl⟩; first | exact Below.refl _ _ | assumption | exact below_drewN (Below.refl _ _) _
    trivial
  intro x W hS_ hb
  obtain ⟨hg, hg_0, hg_1, hg_2, hg_3, hg_4, hg_5, hy, hy_0, hy_1, hy_2⟩ := hS_
  change wpList _ _ _ _ _ _
  simp only [overlay, pairs, GW.look, if_true, if_false]
  go_wp2
  go_ret
  exact ⟨by rw [HD.out]; rfl, ((Below.refl _ _).alloc (Nat.le_refl _) _).trans (hb.mono (by simp))⟩

theorem settle_ok {a5 : Int} {r : List Int} {due paid : Int} (hr : ArrOk r) (h5 : 0 ≤ a5) (h6 : a5 ≤ 5) (hd0 : 0 ≤ due) (hd1 : due ≤ 1099511627776) (hp0 : 0 ≤ paid) : ArrOk (settle a5 r due paid) := by
  unfold settle
  refine ⟨?_, fun x hx => ?_⟩
  · rw [List.length_drop, List.length_append, settleOld_length]
    have := hr.1
    simp
    omega
  · rcases List.mem_append.1 (List.mem_of_mem_drop hx) with h | h
    · exact settleOld_bd r _ (by omega) hr.2 x h
    · simp at h
      omega

/-- What is paid in a year. -/
def paidOf (du s b : Int) : Int := max 0 (min (du + s) b)
def dueFn (g : Nat) : Value := .func (.func 19) #[.pointer (some ⟨g, 0, none⟩)] #[]

set_option maxHeartbeats 4000000 in
theorem year_any {a0 a1 a2 a3 a4 a5 : Int} (H : ActOk a0 a1 a2 a3 a4 a5) (g : Nat) (bal price cap profit : Int) (r : List Int) (w : World) (hI : IsCo w g a0 a1 a2 a3 a4 a5 bal r) (hr : ArrOk r)
    (hp0 : 0 ≤ price) (hp1 : price ≤ 100000) (hc0 : 0 ≤ cap) (hc1 : cap ≤ 1099511627776) (hf0 : -1099511627776 ≤ profit) (hf1 : profit ≤ 1099511627776)
    (hb0 : -70368744177664 ≤ bal) (hb1 : bal ≤ 70368744177664) (rt du s pd : Int) (hrt : rt = rate a0 a1 a2 a3 price) (hdu : du = dueOf a0 a1 a2 a3 price cap) (hs : s = r.sum) (hpd : pd = paidOf du s (bal + profit)) :
    Calls Try.prog 28 #[.pointer (some ⟨g, 0, none⟩), .agg #[.int .i64 price, .int .i64 cap, .int .i64 profit], dueFn g] w fun e w' =>
      e = .returned (.agg #[.int .i64 rt, .int .i64 du, .int .i64 pd, .int .i64 (settle a5 r du pd).sum, .int .i64 (bal + profit - pd - max 0 (bal + profit - pd - a4)), .int .i64 (max 0 (bal + profit - pd - a4))]) ∧
        IsCo w' g a0 a1 a2 a3 a4 a5 (bal + profit - pd - max 0 (bal + profit - pd - a4)) (settle a5 r du pd) ∧ w.grownBy w' (some g) := by
  obtain ⟨_, _, hdu0, hdu1⟩ := dueOf_bd a0 a1 a2 a3 price cap hc0 hc1
  rw [← hdu] at hdu0 hdu1
  have hss := hr.sum
  rw [← hs] at hss
  have hpb : 0 ≤ pd ∧ pd ≤ 8 * 1099511627776 ∧ pd ≤ max 0 (bal + profit) := by rw [hpd]; unfold paidOf; omega
  have Hrt := Lib.hid hrt
  have Hdu := Lib.hid hdu
  have Hs := Lib.hid hs
  have Hpd := Lib.hid hpd
  clear hrt hdu hs hpd
  obtain ⟨A, c, hg, hlc, hcm, hC, hty⟩ := hI
  have hne : ∀ ad, A = some ad → ad.block ≠ g := fun ad e => (hty ad e).elim fun cs h => ne_typed h hg (by decide)
  have hlt := bk_lt hg
  have KT : KeepsT 0 (fun t => t = 3) w _ := (KeepsT.alloc w (.cells #[.int .i64 price, .int .i64 cap, .int .i64 profit] 34) (Nat.zero_le _)).trans (.alloc _ (.cells #[.int .i64 0, .int .i64 0, .int .i64 0, .int .i64 0, .int .i64 0, .int .i64 0] 32) (Nat.zero_le _))
  have hty := Lib.hid hty
  have hneP : 0 < r.length → ∀ ad, A = some ad → ad.block ≠ w.heap.size + 1 := fun h ad e => by have := ci_lt hC h ad e; omega
  have hneP := Lib.hid hneP
  have hne := Lib.hid hne
  have hf5 : 0 ≤ a5 ∧ a5 ≤ 5 := ⟨H.b0, H.b1⟩
  have m0 := H.m0
  have m1 := H.m1
  unfold dueFn
  go_enter Try.func28, Try.ntmps28
  go_wp2_with fail
  have hy := bk_alloc (bk_new w (.cells #[.int .i64 price, .int .i64 cap, .int .i64 profit] 34)) (.cells #[.int .i64 0, .int .i64 0, .int .i64 0, .int .i64 0, .int .i64 0, .int .i64 0] 32)
  have hp := bk_new (w.alloc (.cells #[.int .i64 price, .int .i64 cap, .int .i64 profit] 34)) (.cells #[.int .i64 0, .int .i64 0, .int .i64 0, .int .i64 0, .int .i64 0, .int .i64 0] 32)
  have hg := bk_alloc (bk_alloc hg (.cells #[.int .i64 price, .int .i64 cap, .int .i64 profit] 34)) (.cells #[.int .i64 0, .int .i64 0, .int .i64 0, .int .i64 0, .int .i64 0, .int .i64 0] 32)
  rw [World.size_alloc] at hp
  have hC := kCi (below_alloc (below_alloc (Below.refl _ w) (.cells #[.int .i64 price, .int .i64 cap, .int .i64 profit] 34)) (.cells #[.int .i64 0, .int .i64 0, .int .i64 0, .int .i64 0, .int .i64 0, .int .i64 0] 32)) hC
  have HG := gb_alloc (gb_alloc (gb_refl w (some g)) (.cells #[.int .i64 price, .int .i64 cap, .int .i64 profit] 34)) (.cells #[.int .i64 0, .int .i64 0, .int .i64 0, .int .i64 0, .int .i64 0, .int .i64 0] 32)
  have HH := H
  refine wp_region_sep [11, 12, 13] [] [some 7, some 8, some 9, some 10, some 11, some 12, some 13, some 14, some 15, some 16, some 17, none, none, none] [_, _, _] [none, none, none, none, none, none, none, none, none, none, none, some (fun _ _ => True), some (fun _ _ => True), some (fun _ _ => True)]
    (fun W => W.heap[g]? = some (.cells #[.int .i64 a0, .int .i64 a1, .int .i64 a2, .int .i64 a3, .int .i64 a4, .int .i64 a5, .int .i64 bal, .slice A r.length c] 54 (0, 0)) ∧ W.cell? ⟨g, 0, none⟩ = some (.int .i64 a0) ∧ W.cell? ⟨g, 1, none⟩ = some (.int .i64 a1) ∧ W.cell? ⟨g, 2, none⟩ = some (.int .i64 a2) ∧ W.cell? ⟨g, 3, none⟩ = some (.int .i64 a3) ∧ W.cell? ⟨g, 4, none⟩ = some (.int .i64 a4) ∧ W.cell? ⟨g, 5, none⟩ = some (.int .i64 a5) ∧ W.heap[w.heap.size]? = some (.cells #[.int .i64 price, .int .i64 cap, .int .i64 profit] 34 (0, 0)) ∧ W.cell? ⟨w.heap.size, 0, none⟩ = some (.int .i64 price) ∧ W.cell? ⟨w.heap.size, 1, none⟩ = some (.int .i64 cap) ∧ W.cell? ⟨w.heap.size, 2, none⟩ = some (.int .i64 profit) ∧ W.heap[w.heap.size + 1]? = some (.cells #[.int .i64 0, .int .i64 0, .int .i64 0, .int .i64 0, .int .i64 0, .int .i64 0] 32 (0, 0)) ∧ W.cell? ⟨w.heap.size + 1, 0, none⟩ = some (.int .i64 0) ∧ W.cell? ⟨w.heap.size + 1, 1, none⟩ = some (.int .i64 0) ∧ W.cell? ⟨w.heap.size + 1, 2, none⟩ = some (.int .i64 0) ∧ W.cell? ⟨w.heap.size + 1, 3, none⟩ = some (.int .i64 0) ∧ W.cell? ⟨w.heap.size + 1, 4, none⟩ = some (.int .i64 0) ∧ W.cell? ⟨w.heap.size + 1, 5, none⟩ = some (.int .i64 0) ∧ Kd.C (Kd.int .i64) W A r.length r)
    (by kernel_rfl) (by kernel_rfl) (by kernel_rfl) rfl rfl (by kernel_rfl) (fun _ d _ _ _ h => by cases d <;> exact h) ?hS (fun W W' ⟨hg, hg_0, hg_1, hg_2, hg_3, hg_4, hg_5, hy, hy_0, hy_1, hy_2, hp, hp_0, hp_1, hp_2, hp_3, hp_4, hp_5, hC⟩ hb => ⟨kblk hb hg, kcell hb hg_0, kcell hb hg_1, kcell hb hg_2, kcell hb hg_3, kcell hb hg_4, kcell hb hg_5, kblk hb hy, kcell hb hy_0, kcell hb hy_1, kcell hb hy_2, kblk hb hp, kcell hb hp_0, kcell hb hp_1, kcell hb hp_2, kcell hb hp_3, kcell hb hp_4, kcell hb hp_5, kCi hb hC⟩) ?_
  case hS =>
    refine ⟨?_, ?_, ?_, ?_, ?_, ?_, ?_, ?_, ?_, ?_, ?_, ?_, ?_, ?_, ?_, ?_, ?_, ?_, ?_⟩
    · exact hg
    · exact cell_of_row _ _ 0 _ _ _ hg
    · exact cell_of_row _ _ 1 _ _ _ hg
    · exact cell_of_row _ _ 2 _ _ _ hg
    · exact cell_of_row _ _ 3 _ _ _ hg
    · exact cell_of_row _ _ 4 _ _ _ hg
    · exact cell_of_row _ _ 5 _ _ _ hg
    · exact hy
    · exact cell_of_row _ _ 0 _ _ _ hy
    · exact cell_of_row _ _ 1 _ _ _ hy
    · exact cell_of_row _ _ 2 _ _ _ hy
    · exact hp
    · exact cell_of_row _ _ 0 _ _ _ hp
    · exact cell_of_row _ _ 1 _ _ _ hp
    · exact cell_of_row _ _ 2 _ _ _ hp
    · exact cell_of_row _ _ 3 _ _ _ hp
    · exact cell_of_row _ _ 4 _ _ _ hp
    · exact cell_of_row _ _ 5 _ _ _ hp
    · first | assumption | (go_simp; done)
  simp only [exN]
  repeat apply Exists.intro
  refine ⟨?_, ?_⟩
  · -- the operations
    refine ⟨?_, ?_⟩
    · rintro x W ⟨hg, hg_0, hg_1, hg_2, hg_3, hg_4, hg_5, hy, hy_0, hy_1, hy_2, hp, hp_0, hp_1, hp_2, hp_3, hp_4, hp_5, hC⟩ Q hQ; change wpList _ _ _ _ (Act.mk #[_, _, _, _, _, _, _, _, _, _, _, _, _, _, _, _, _, _, _, _, _, _, _, _, _, _, _, _, _, _, _, _, _, _, _, _, _, _, _, _, _, _, _, _, _, _, _, _, _, _, _, _, _, _, _, _, _, _, _, _, _, _, _, _, _, _, _, _, _, _, _, _, _, _, _, _, _, _, _, _, _, _, _, _, _] _) _; go_wp2; refine ⟨rfl, rfl, ?_, rfl⟩; first | exact Below.refl _ _ | assumption | exact below_drewN (Below.refl _ _) _
    refine ⟨?_, ?_⟩
    · rintro x W ⟨hg, hg_0, hg_1, hg_2, hg_3, hg_4, hg_5, hy, hy_0, hy_1, hy_2, hp, hp_0, hp_1, hp_2, hp_3, hp_4, hp_5, hC⟩ Q hQ; change wpList _ _ _ _ (Act.mk #[_, _, _, _, _, _, _, _, _, _, _, _, _, _, _, _, _, _, _, _, _, _, _, _, _, _, _, _, _, _, _, _, _, _, _, _, _, _, _, _, _, _, _, _, _, _, _, _, _, _, _, _, _, _, _, _, _, _, _, _, _, _, _, _, _, _, _, _, _, _, _, _, _, _, _, _, _, _, _, _, _, _, _, _, _] _) _; go_wp2; refine ⟨rfl, rfl, ?_, rfl⟩; first | exact Below.refl _ _ | assumption | exact below_drewN (Below.refl _ _) _
    refine ⟨?_, ?_⟩
    · rintro x W ⟨hg, hg_0, hg_1, hg_2, hg_3, hg_4, hg_5, hy, hy_0, hy_1, hy_2, hp, hp_0, hp_1, hp_2, hp_3, hp_4, hp_5, hC⟩ Q hQ; change wpList _ _ _ _ (Act.mk #[_, _, _, _, _, _, _, _, _, _, _, _, _, _, _, _, _, _, _, _, _, _, _, _, _, _, _, _, _, _, _, _, _, _, _, _, _, _, _, _, _, _, _, _, _, _, _, _, _, _, _, _, _, _, _, _, _, _, _, _, _, _, _, _, _, _, _, _, _, _, _, _, _, _, _, _, _, _, _, _, _, _, _, _, _] _) _; go_wp2; refine ⟨rfl, rfl, ?_, rfl⟩; first | exact Below.refl _ _ | assumption | exact below_drewN (Below.refl _ _) _
    refine ⟨?_, ?_⟩
    · rintro x W ⟨hg, hg_0, hg_1, hg_2, hg_3, hg_4, hg_5, hy, hy_0, hy_1, hy_2, hp, hp_0, hp_1, hp_2, hp_3, hp_4, hp_5, hC⟩ Q hQ; change wpList _ _ _ _ (Act.mk #[_, _, _, _, _, _, _, _, _, _, _, _, _, _, _, _, _, _, _, _, _, _, _, _, _, _, _, _, _, _, _, _, _, _, _, _, _, _, _, _, _, _, _, _, _, _, _, _, _, _, _, _, _, _, _, _, _, _, _, _, _, _, _, _, _, _, _, _, _, _, _, _, _, _, _, _, _, _, _, _, _, _, _, _, _] _) _; go_wp2; refine ⟨rfl, rfl, ?_, rfl⟩; first | exact Below.refl _ _ | assumption | exact below_drewN (Below.refl _ _) _
    refine ⟨?_, ?_⟩
    · rintro x W ⟨hg, hg_0, hg_1, hg_2, hg_3, hg_4, hg_5, hy, hy_0, hy_1, hy_2, hp, hp_0, hp_1, hp_2, hp_3, hp_4, hp_5, hC⟩ Q hQ; change wpList _ _ _ _ (Act.mk #[_, _, _, _, _, _, _, _, _, _, _, _, _, _, _, _, _, _, _, _, _, _, _, _, _, _, _, _, _, _, _, _, _, _, _, _, _, _, _, _, _, _, _, _, _, _, _, _, _, _, _, _, _, _, _, _, _, _, _, _, _, _, _, _, _, _, _, _, _, _, _, _, _, _, _, _, _, _, _, _, _, _, _, _, _] _) _; go_wp2; refine ⟨rfl, rfl, ?_, rfl⟩; first | exact Below.refl _ _ | assumption | exact below_drewN (Below.refl _ _) _
    refine ⟨?_, ?_⟩
    · rintro x W ⟨hg, hg_0, hg_1, hg_2, hg_3, hg_4, hg_5, hy, hy_0, hy_1, hy_2, hp, hp_0, hp_1, hp_2, hp_3, hp_4, hp_5, hC⟩ Q hQ; change wpList _ _ _ _ (Act.mk #[_, _, _, _, _, _, _, _, _, _, _, _, _, _, _, _, _, _, _, _, _, _, _, _, _, _, _, _, _, _, _, _, _, _, _, _, _, _, _, _, _, _, _, _, _, _, _, _, _, _, _, _, _, _, _, _, _, _, _, _, _, _, _, _, _, _, _, _, _, _, _, _, _, _, _, _, _, _, _, _, _, _, _, _, _] _) _; go_wp2; refine ⟨rfl, rfl, ?_, rfl⟩; first | exact Below.refl _ _ | assumption | exact below_drewN (Below.refl _ _) _
    refine ⟨?_, ?_⟩
    · rintro x W ⟨hg, hg_0, hg_1, hg_2, hg_3, hg_4, hg_5, hy, hy_0, hy_1, hy_2, hp, hp_0, hp_1, hp_2, hp_3, hp_4, hp_5, hC⟩ Q hQ; change wpList _ _ _ _ (Act.mk #[_, _, _, _, _, _, _, _, _, _, _, _, _, _, _, _, _, _, _, _, _, _, _, _, _, _, _, _, _, _, _, _, _, _, _, _, _, _, _, _, _, _, _, _, _, _, _, _, _, _, _, _, _, _, _, _, _, _, _, _, _, _, _, _, _, _, _, _, _, _, _, _, _, _, _, _, _, _, _, _, _, _, _, _, _] _) _; go_wp2_with (first | (go_at_call 22; refine (rateOf_any HH _ _ hp0 hp1).mono ?_; rintro e w' ⟨rfl, hb1⟩; rw [← Hrt.out]) | (go_at_call 19; refine (due_any HH g bal price cap profit _ _ hg hp0 hp1 hc0 hc1).mono ?_; rintro e w' ⟨rfl, hb1⟩; rw [← Hdu.out])); refine ⟨rfl, rfl, ?_, rfl⟩; first | exact Below.refl _ _ | assumption | exact below_drewN (Below.refl _ _) _
    refine ⟨?_, ?_⟩
    · rintro x W ⟨hg, hg_0, hg_1, hg_2, hg_3, hg_4, hg_5, hy, hy_0, hy_1, hy_2, hp, hp_0, hp_1, hp_2, hp_3, hp_4, hp_5, hC⟩ Q hQ; change wpList _ _ _ _ (Act.mk #[_, _, _, _, _, _, _, _, _, _, _, _, _, _, _, _, _, _, _, _, _, _, _, _, _, _, _, _, _, _, _, _, _, _, _, _, _, _, _, _, _, _, _, _, _, _, _, _, _, _, _, _, _, _, _, _, _, _, _, _, _, _, _, _, _, _, _, _, _, _, _, _, _, _, _, _, _, _, _, _, _, _, _, _, _] _) _; go_wp2; refine ⟨rfl, rfl, ?_, rfl⟩; first | exact Below.refl _ _ | assumption | exact below_drewN (Below.refl _ _) _
    refine ⟨?_, ?_⟩
    · rintro x W ⟨hg, hg_0, hg_1, hg_2, hg_3, hg_4, hg_5, hy, hy_0, hy_1, hy_2, hp, hp_0, hp_1, hp_2, hp_3, hp_4, hp_5, hC⟩ Q hQ; change wpList _ _ _ _ (Act.mk #[_, _, _, _, _, _, _, _, _, _, _, _, _, _, _, _, _, _, _, _, _, _, _, _, _, _, _, _, _, _, _, _, _, _, _, _, _, _, _, _, _, _, _, _, _, _, _, _, _, _, _, _, _, _, _, _, _, _, _, _, _, _, _, _, _, _, _, _, _, _, _, _, _, _, _, _, _, _, _, _, _, _, _, _, _] _) _; go_wp2; refine ⟨rfl, rfl, ?_, rfl⟩; first | exact Below.refl _ _ | assumption | exact below_drewN (Below.refl _ _) _
    refine ⟨?_, ?_⟩
    · rintro x W ⟨hg, hg_0, hg_1, hg_2, hg_3, hg_4, hg_5, hy, hy_0, hy_1, hy_2, hp, hp_0, hp_1, hp_2, hp_3, hp_4, hp_5, hC⟩ Q hQ; change wpList _ _ _ _ (Act.mk #[_, _, _, _, _, _, _, _, _, _, _, _, _, _, _, _, _, _, _, _, _, _, _, _, _, _, _, _, _, _, _, _, _, _, _, _, _, _, _, _, _, _, _, _, _, _, _, _, _, _, _, _, _, _, _, _, _, _, _, _, _, _, _, _, _, _, _, _, _, _, _, _, _, _, _, _, _, _, _, _, _, _, _, _, _] _) _; go_wp2_with (first | (go_at_call 22; refine (rateOf_any HH _ _ hp0 hp1).mono ?_; rintro e w' ⟨rfl, hb1⟩; rw [← Hrt.out]) | (go_at_call 19; refine (due_any HH g bal price cap profit _ _ hg hp0 hp1 hc0 hc1).mono ?_; rintro e w' ⟨rfl, hb1⟩; rw [← Hdu.out])); refine ⟨rfl, rfl, ?_, rfl⟩; first | exact Below.refl _ _ | assumption | exact below_drewN (Below.refl _ _) _
    refine ⟨?_, ?_⟩
    · rintro x W ⟨hg, hg_0, hg_1, hg_2, hg_3, hg_4, hg_5, hy, hy_0, hy_1, hy_2, hp, hp_0, hp_1, hp_2, hp_3, hp_4, hp_5, hC⟩ Q hQ; change wpList _ _ _ _ (Act.mk #[_, _, _, _, _, _, _, _, _, _, _, _, _, _, _, _, _, _, _, _, _, _, _, _, _, _, _, _, _, _, _, _, _, _, _, _, _, _, _, _, _, _, _, _, _, _, _, _, _, _, _, _, _, _, _, _, _, _, _, _, _, _, _, _, _, _, _, _, _, _, _, _, _, _, _, _, _, _, _, _, _, _, _, _, _] _) _; go_wp2; refine ⟨rfl, rfl, ?_, rfl⟩; first | exact Below.refl _ _ | assumption | exact below_drewN (Below.refl _ _) _
    trivial
  intro x W hS_ hb
  obtain ⟨hg, hg_0, hg_1, hg_2, hg_3, hg_4, hg_5, hy, hy_0, hy_1, hy_2, hp, hp_0, hp_1, hp_2, hp_3, hp_4, hp_5, hC⟩ := hS_
  change wpList _ _ _ _ _ _
  simp only [overlay, pairs, GW.look, if_true, if_false]
  have HG := gb_below HG hb
  have KT := KT.trans (.below hb (Nat.zero_le _))
  have fz := fun i => free_of W (w.heap.size + 1) i _ _ hp
  have fg := fun i => free_of W g i _ _ hg
  go_wp2
  have KT := KT.trans (.setCell hp (Nat.zero_le _) (by decide) 0 none (.int .i64 rt))
  have KT := KT.trans (.setCell (bk_set hp 0 (.int .i64 rt)) (Nat.zero_le _) (by decide) 1 none (.int .i64 du))
  have hp := bk_set (bk_set (hp) 0 (.int .i64 rt)) 1 (.int .i64 du)
  have hg := bk_far (bk_far (hg) ⟨w.heap.size + 1, 0, none⟩ (.int .i64 rt) (by show g ≠ w.heap.size + 1; omega)) ⟨w.heap.size + 1, 1, none⟩ (.int .i64 du) (by show g ≠ w.heap.size + 1; omega)
  have hy := bk_far (bk_far (hy) ⟨w.heap.size + 1, 0, none⟩ (.int .i64 rt) (by show w.heap.size ≠ w.heap.size + 1; omega)) ⟨w.heap.size + 1, 1, none⟩ (.int .i64 du) (by show w.heap.size ≠ w.heap.size + 1; omega)
  have hC := ci_far (ci_far (hC) ⟨w.heap.size + 1, 0, none⟩ (.int .i64 rt) (hneP.out)) ⟨w.heap.size + 1, 1, none⟩ (.int .i64 du) (hneP.out)
  have HG := gb_set (gb_set (HG) (p := ⟨w.heap.size + 1, 0, none⟩) (.inr (by show w.heap.size ≤ w.heap.size + 1; omega)) (.int .i64 rt)) (p := ⟨w.heap.size + 1, 1, none⟩) (.inr (by show w.heap.size ≤ w.heap.size + 1; omega)) (.int .i64 du)
  clear fz fg hb
  refine wp_region_sep [9] [] [some 19, some 20, some 21, some 22, some 23, some 24, some 25, some 26, some 27, none] [_] [none, none, none, none, none, none, none, none, none, some (fun _ _ => True)]
    (fun W => W.heap[g]? = some (.cells #[.int .i64 a0, .int .i64 a1, .int .i64 a2, .int .i64 a3, .int .i64 a4, .int .i64 a5, .int .i64 bal, .slice A r.length c] 54 (0, 0)) ∧ W.cell? ⟨g, 6, none⟩ = some (.int .i64 bal) ∧ W.heap[w.heap.size]? = some (.cells #[.int .i64 price, .int .i64 cap, .int .i64 profit] 34 (0, 0)) ∧ W.cell? ⟨w.heap.size, 2, none⟩ = some (.int .i64 profit) ∧ W.heap[w.heap.size + 1]? = some (.cells #[.int .i64 rt, .int .i64 du, .int .i64 0, .int .i64 0, .int .i64 0, .int .i64 0] 32 (0, 0)) ∧ W.cell? ⟨w.heap.size + 1, 0, none⟩ = some (.int .i64 rt) ∧ W.cell? ⟨w.heap.size + 1, 1, none⟩ = some (.int .i64 du) ∧ W.cell? ⟨w.heap.size + 1, 2, none⟩ = some (.int .i64 0) ∧ W.cell? ⟨w.heap.size + 1, 3, none⟩ = some (.int .i64 0) ∧ W.cell? ⟨w.heap.size + 1, 4, none⟩ = some (.int .i64 0) ∧ W.cell? ⟨w.heap.size + 1, 5, none⟩ = some (.int .i64 0) ∧ Kd.C (Kd.int .i64) W A r.length r)
    (by kernel_rfl) (by kernel_rfl) (by kernel_rfl) rfl rfl (by kernel_rfl) (fun _ d _ _ _ h => by cases d <;> exact h) ?hS (fun W W' ⟨hg, hg_6, hy, hy_2, hp, hp_0, hp_1, hp_2, hp_3, hp_4, hp_5, hC⟩ hb => ⟨kblk hb hg, kcell hb hg_6, kblk hb hy, kcell hb hy_2, kblk hb hp, kcell hb hp_0, kcell hb hp_1, kcell hb hp_2, kcell hb hp_3, kcell hb hp_4, kcell hb hp_5, kCi hb hC⟩) ?_
  case hS =>
    refine ⟨?_, ?_, ?_, ?_, ?_, ?_, ?_, ?_, ?_, ?_, ?_, ?_⟩
    · exact hg
    · exact cell_of_row _ _ 6 _ _ _ hg
    · exact hy
    · exact cell_of_row _ _ 2 _ _ _ hy
    · exact hp
    · exact cell_of_row _ _ 0 _ _ _ hp
    · exact cell_of_row _ _ 1 _ _ _ hp
    · exact cell_of_row _ _ 2 _ _ _ hp
    · exact cell_of_row _ _ 3 _ _ _ hp
    · exact cell_of_row _ _ 4 _ _ _ hp
    · exact cell_of_row _ _ 5 _ _ _ hp
    · first | assumption | (go_simp; done)
  simp only [exN]
  repeat apply Exists.intro
  refine ⟨?_, ?_⟩
  · -- the operations
    refine ⟨?_, ?_⟩
    · rintro x W ⟨hg, hg_6, hy, hy_2, hp, hp_0, hp_1, hp_2, hp_3, hp_4, hp_5, hC⟩ Q hQ; change wpList _ _ _ _ (Act.mk #[_, _, _, _, _, _, _, _, _, _, _, _, _, _, _, _, _, _, _, _, _, _, _, _, _, _, _, _, _, _, _, _, _, _, _, _, _, _, _, _, _, _, _, _, _, _, _, _, _, _, _, _, _, _, _, _, _, _, _, _, _, _, _, _, _, _, _, _, _, _, _, _, _, _, _, _, _, _, _, _, _, _, _, _, _] _) _; go_wp2; refine ⟨rfl, rfl, ?_, rfl⟩; first | exact Below.refl _ _ | assumption | exact below_drewN (Below.refl _ _) _
    refine ⟨?_, ?_⟩
    · rintro x W ⟨hg, hg_6, hy, hy_2, hp, hp_0, hp_1, hp_2, hp_3, hp_4, hp_5, hC⟩ Q hQ; change wpList _ _ _ _ (Act.mk #[_, _, _, _, _, _, _, _, _, _, _, _, _, _, _, _, _, _, _, _, _, _, _, _, _, _, _, _, _, _, _, _, _, _, _, _, _, _, _, _, _, _, _, _, _, _, _, _, _, _, _, _, _, _, _, _, _, _, _, _, _, _, _, _, _, _, _, _, _, _, _, _, _, _, _, _, _, _, _, _, _, _, _, _, _] _) _; go_wp2; refine ⟨rfl, rfl, ?_, rfl⟩; first | exact Below.refl _ _ | assumption | exact below_drewN (Below.refl _ _) _
    refine ⟨?_, ?_⟩
    · rintro x W ⟨hg, hg_6, hy, hy_2, hp, hp_0, hp_1, hp_2, hp_3, hp_4, hp_5, hC⟩ Q hQ; change wpList _ _ _ _ (Act.mk #[_, _, _, _, _, _, _, _, _, _, _, _, _, _, _, _, _, _, _, _, _, _, _, _, _, _, _, _, _, _, _, _, _, _, _, _, _, _, _, _, _, _, _, _, _, _, _, _, _, _, _, _, _, _, _, _, _, _, _, _, _, _, _, _, _, _, _, _, _, _, _, _, _, _, _, _, _, _, _, _, _, _, _, _, _] _) _; go_wp2; refine ⟨rfl, rfl, ?_, rfl⟩; first | exact Below.refl _ _ | assumption | exact below_drewN (Below.refl _ _) _
    refine ⟨?_, ?_⟩
    · rintro x W ⟨hg, hg_6, hy, hy_2, hp, hp_0, hp_1, hp_2, hp_3, hp_4, hp_5, hC⟩ Q hQ; change wpList _ _ _ _ (Act.mk #[_, _, _, _, _, _, _, _, _, _, _, _, _, _, _, _, _, _, _, _, _, _, _, _, _, _, _, _, _, _, _, _, _, _, _, _, _, _, _, _, _, _, _, _, _, _, _, _, _, _, _, _, _, _, _, _, _, _, _, _, _, _, _, _, _, _, _, _, _, _, _, _, _, _, _, _, _, _, _, _, _, _, _, _, _] _) _; go_wp2; refine ⟨rfl, rfl, ?_, rfl⟩; first | exact Below.refl _ _ | assumption | exact below_drewN (Below.refl _ _) _
    refine ⟨?_, ?_⟩
    · rintro x W ⟨hg, hg_6, hy, hy_2, hp, hp_0, hp_1, hp_2, hp_3, hp_4, hp_5, hC⟩ Q hQ; change wpList _ _ _ _ (Act.mk #[_, _, _, _, _, _, _, _, _, _, _, _, _, _, _, _, _, _, _, _, _, _, _, _, _, _, _, _, _, _, _, _, _, _, _, _, _, _, _, _, _, _, _, _, _, _, _, _, _, _, _, _, _, _, _, _, _, _, _, _, _, _, _, _, _, _, _, _, _, _, _, _, _, _, _, _, _, _, _, _, _, _, _, _, _] _) _; go_wp2; refine ⟨rfl, rfl, ?_, rfl⟩; first | exact Below.refl _ _ | assumption | exact below_drewN (Below.refl _ _) _
    refine ⟨?_, ?_⟩
    · rintro x W ⟨hg, hg_6, hy, hy_2, hp, hp_0, hp_1, hp_2, hp_3, hp_4, hp_5, hC⟩ Q hQ; change wpList _ _ _ _ (Act.mk #[_, _, _, _, _, _, _, _, _, _, _, _, _, _, _, _, _, _, _, _, _, _, _, _, _, _, _, _, _, _, _, _, _, _, _, _, _, _, _, _, _, _, _, _, _, _, _, _, _, _, _, _, _, _, _, _, _, _, _, _, _, _, _, _, _, _, _, _, _, _, _, _, _, _, _, _, _, _, _, _, _, _, _, _, _] _) _; go_wp2; refine ⟨rfl, rfl, ?_, rfl⟩; first | exact Below.refl _ _ | assumption | exact below_drewN (Below.refl _ _) _
    refine ⟨?_, ?_⟩
    · rintro x W ⟨hg, hg_6, hy, hy_2, hp, hp_0, hp_1, hp_2, hp_3, hp_4, hp_5, hC⟩ Q hQ; change wpList _ _ _ _ (Act.mk #[_, _, _, _, _, _, _, _, _, _, _, _, _, _, _, _, _, _, _, _, _, _, _, _, _, _, _, _, _, _, _, _, _, _, _, _, _, _, _, _, _, _, _, _, _, _, _, _, _, _, _, _, _, _, _, _, _, _, _, _, _, _, _, _, _, _, _, _, _, _, _, _, _, _, _, _, _, _, _, _, _, _, _, _, _] _) _; go_wp2; refine ⟨rfl, rfl, ?_, rfl⟩; first | exact Below.refl _ _ | assumption | exact below_drewN (Below.refl _ _) _
    refine ⟨?_, ?_⟩
    · rintro x W ⟨hg, hg_6, hy, hy_2, hp, hp_0, hp_1, hp_2, hp_3, hp_4, hp_5, hC⟩ Q hQ; change wpList _ _ _ _ (Act.mk #[_, _, _, _, _, _, _, _, _, _, _, _, _, _, _, _, _, _, _, _, _, _, _, _, _, _, _, _, _, _, _, _, _, _, _, _, _, _, _, _, _, _, _, _, _, _, _, _, _, _, _, _, _, _, _, _, _, _, _, _, _, _, _, _, _, _, _, _, _, _, _, _, _, _, _, _, _, _, _, _, _, _, _, _, _] _) _; go_wp2; refine ⟨rfl, rfl, ?_, rfl⟩; first | exact Below.refl _ _ | assumption | exact below_drewN (Below.refl _ _) _
    refine ⟨?_, ?_⟩
    · rintro x W ⟨hg, hg_6, hy, hy_2, hp, hp_0, hp_1, hp_2, hp_3, hp_4, hp_5, hC⟩ Q hQ; change wpList _ _ _ _ (Act.mk #[_, _, _, _, _, _, _, _, _, _, _, _, _, _, _, _, _, _, _, _, _, _, _, _, _, _, _, _, _, _, _, _, _, _, _, _, _, _, _, _, _, _, _, _, _, _, _, _, _, _, _, _, _, _, _, _, _, _, _, _, _, _, _, _, _, _, _, _, _, _, _, _, _, _, _, _, _, _, _, _, _, _, _, _, _] _) _; go_wp2; refine ⟨rfl, rfl, ?_, rfl⟩; first | exact Below.refl _ _ | assumption | exact below_drewN (Below.refl _ _) _
    trivial
  intro x W hS_ hb
  obtain ⟨hg, hg_6, hy, hy_2, hp, hp_0, hp_1, hp_2, hp_3, hp_4, hp_5, hC⟩ := hS_
  change wpList _ _ _ _ _ _
  simp only [overlay, pairs, GW.look, if_true, if_false]
  have HG := gb_below HG hb
  have KT := KT.trans (.below hb (Nat.zero_le _))
  have fz := fun i => free_of W (w.heap.size + 1) i _ _ hp
  have fg := fun i => free_of W g i _ _ hg
  go_wp2
  have KT := KT.trans (.setCell hg (Nat.zero_le _) (by decide) 6 none (.int .i64 (bal + profit)))
  have hg := bk_set (hg) 6 (.int .i64 (bal + profit))
  have hp := bk_far (hp) ⟨g, 6, none⟩ (.int .i64 (bal + profit)) (by show w.heap.size + 1 ≠ g; omega)
  have hy := bk_far (hy) ⟨g, 6, none⟩ (.int .i64 (bal + profit)) (by show w.heap.size ≠ g; omega)
  have hC := ci_far (hC) ⟨g, 6, none⟩ (.int .i64 (bal + profit)) (fun _ => hne.out)
  have HG := gb_set (HG) (p := ⟨g, 6, none⟩) (.inl rfl) (.int .i64 (bal + profit))
  clear fz fg hb
  refine wp_region_sep [12] [] [some 28, some 29, some 30, some 31, some 32, some 33, some 34, some 35, some 36, some 37, some 38, some 39, none] [_] [none, none, none, none, none, none, none, none, none, none, none, none, some (fun _ _ => True)]
    (fun W => W.heap[g]? = some (.cells #[.int .i64 a0, .int .i64 a1, .int .i64 a2, .int .i64 a3, .int .i64 a4, .int .i64 a5, .int .i64 (bal + profit), .slice A r.length c] 54 (0, 0)) ∧ W.cell? ⟨g, 6, none⟩ = some (.int .i64 (bal + profit)) ∧ W.cell? ⟨g, 7, none⟩ = some (.slice A r.length c) ∧ W.heap[w.heap.size]? = some (.cells #[.int .i64 price, .int .i64 cap, .int .i64 profit] 34 (0, 0)) ∧ W.cell? ⟨w.heap.size, 2, none⟩ = some (.int .i64 profit) ∧ W.heap[w.heap.size + 1]? = some (.cells #[.int .i64 rt, .int .i64 du, .int .i64 0, .int .i64 0, .int .i64 0, .int .i64 0] 32 (0, 0)) ∧ W.cell? ⟨w.heap.size + 1, 0, none⟩ = some (.int .i64 rt) ∧ W.cell? ⟨w.heap.size + 1, 1, none⟩ = some (.int .i64 du) ∧ W.cell? ⟨w.heap.size + 1, 2, none⟩ = some (.int .i64 0) ∧ W.cell? ⟨w.heap.size + 1, 3, none⟩ = some (.int .i64 0) ∧ W.cell? ⟨w.heap.size + 1, 4, none⟩ = some (.int .i64 0) ∧ W.cell? ⟨w.heap.size + 1, 5, none⟩ = some (.int .i64 0) ∧ Kd.C (Kd.int .i64) W A r.length r)
    (by kernel_rfl) (by kernel_rfl) (by kernel_rfl) rfl rfl (by kernel_rfl) (fun _ d _ _ _ h => by cases d <;> exact h) ?hS (fun W W' ⟨hg, hg_6, hg_7, hy, hy_2, hp, hp_0, hp_1, hp_2, hp_3, hp_4, hp_5, hC⟩ hb => ⟨kblk hb hg, kcell hb hg_6, kcell hb hg_7, kblk hb hy, kcell hb hy_2, kblk hb hp, kcell hb hp_0, kcell hb hp_1, kcell hb hp_2, kcell hb hp_3, kcell hb hp_4, kcell hb hp_5, kCi hb hC⟩) ?_
  case hS =>
    refine ⟨?_, ?_, ?_, ?_, ?_, ?_, ?_, ?_, ?_, ?_, ?_, ?_, ?_⟩
    · exact hg
    · exact cell_of_row _ _ 6 _ _ _ hg
    · exact cell_of_row _ _ 7 _ _ _ hg
    · exact hy
    · exact cell_of_row _ _ 2 _ _ _ hy
    · exact hp
    · exact cell_of_row _ _ 0 _ _ _ hp
    · exact cell_of_row _ _ 1 _ _ _ hp
    · exact cell_of_row _ _ 2 _ _ _ hp
    · exact cell_of_row _ _ 3 _ _ _ hp
    · exact cell_of_row _ _ 4 _ _ _ hp
    · exact cell_of_row _ _ 5 _ _ _ hp
    · first | assumption | (go_simp; done)
  simp only [exN]
  repeat apply Exists.intro
  refine ⟨?_, ?_⟩
  · -- the operations
    refine ⟨?_, ?_⟩
    · rintro x W ⟨hg, hg_6, hg_7, hy, hy_2, hp, hp_0, hp_1, hp_2, hp_3, hp_4, hp_5, hC⟩ Q hQ; change wpList _ _ _ _ (Act.mk #[_, _, _, _, _, _, _, _, _, _, _, _, _, _, _, _, _, _, _, _, _, _, _, _, _, _, _, _, _, _, _, _, _, _, _, _, _, _, _, _, _, _, _, _, _, _, _, _, _, _, _, _, _, _, _, _, _, _, _, _, _, _, _, _, _, _, _, _, _, _, _, _, _, _, _, _, _, _, _, _, _, _, _, _, _] _) _; go_wp2; refine ⟨rfl, rfl, ?_, rfl⟩; first | exact Below.refl _ _ | assumption | exact below_drewN (Below.refl _ _) _
    refine ⟨?_, ?_⟩
    · rintro x W ⟨hg, hg_6, hg_7, hy, hy_2, hp, hp_0, hp_1, hp_2, hp_3, hp_4, hp_5, hC⟩ Q hQ; change wpList _ _ _ _ (Act.mk #[_, _, _, _, _, _, _, _, _, _, _, _, _, _, _, _, _, _, _, _, _, _, _, _, _, _, _, _, _, _, _, _, _, _, _, _, _, _, _, _, _, _, _, _, _, _, _, _, _, _, _, _, _, _, _, _, _, _, _, _, _, _, _, _, _, _, _, _, _, _, _, _, _, _, _, _, _, _, _, _, _, _, _, _, _] _) _; go_wp2; refine ⟨rfl, rfl, ?_, rfl⟩; first | exact Below.refl _ _ | assumption | exact below_drewN (Below.refl _ _) _
    refine ⟨?_, ?_⟩
    · rintro x W ⟨hg, hg_6, hg_7, hy, hy_2, hp, hp_0, hp_1, hp_2, hp_3, hp_4, hp_5, hC⟩ Q hQ; change wpList _ _ _ _ (Act.mk #[_, _, _, _, _, _, _, _, _, _, _, _, _, _, _, _, _, _, _, _, _, _, _, _, _, _, _, _, _, _, _, _, _, _, _, _, _, _, _, _, _, _, _, _, _, _, _, _, _, _, _, _, _, _, _, _, _, _, _, _, _, _, _, _, _, _, _, _, _, _, _, _, _, _, _, _, _, _, _, _, _, _, _, _, _] _) _; go_wp2; refine ⟨rfl, rfl, ?_, rfl⟩; first | exact Below.refl _ _ | assumption | exact below_drewN (Below.refl _ _) _
    refine ⟨?_, ?_⟩
    · rintro x W ⟨hg, hg_6, hg_7, hy, hy_2, hp, hp_0, hp_1, hp_2, hp_3, hp_4, hp_5, hC⟩ Q hQ; change wpList _ _ _ _ (Act.mk #[_, _, _, _, _, _, _, _, _, _, _, _, _, _, _, _, _, _, _, _, _, _, _, _, _, _, _, _, _, _, _, _, _, _, _, _, _, _, _, _, _, _, _, _, _, _, _, _, _, _, _, _, _, _, _, _, _, _, _, _, _, _, _, _, _, _, _, _, _, _, _, _, _, _, _, _, _, _, _, _, _, _, _, _, _] _) _; go_wp2_with (first | (go_at_call 20; refine (owed_any g A c r _ hg_7 hr hC).mono ?_; rintro e w' ⟨rfl, rfl⟩; rw [← Hs.out])); refine ⟨rfl, rfl, ?_, rfl⟩; first | exact Below.refl _ _ | assumption | exact below_drewN (Below.refl _ _) _
    refine ⟨?_, ?_⟩
    · rintro x W ⟨hg, hg_6, hg_7, hy, hy_2, hp, hp_0, hp_1, hp_2, hp_3, hp_4, hp_5, hC⟩ Q hQ; change wpList _ _ _ _ (Act.mk #[_, _, _, _, _, _, _, _, _, _, _, _, _, _, _, _, _, _, _, _, _, _, _, _, _, _, _, _, _, _, _, _, _, _, _, _, _, _, _, _, _, _, _, _, _, _, _, _, _, _, _, _, _, _, _, _, _, _, _, _, _, _, _, _, _, _, _, _, _, _, _, _, _, _, _, _, _, _, _, _, _, _, _, _, _] _) _; go_wp2; refine ⟨rfl, rfl, ?_, rfl⟩; first | exact Below.refl _ _ | assumption | exact below_drewN (Below.refl _ _) _
    refine ⟨?_, ?_⟩
    · rintro x W ⟨hg, hg_6, hg_7, hy, hy_2, hp, hp_0, hp_1, hp_2, hp_3, hp_4, hp_5, hC⟩ Q hQ; change wpList _ _ _ _ (Act.mk #[_, _, _, _, _, _, _, _, _, _, _, _, _, _, _, _, _, _, _, _, _, _, _, _, _, _, _, _, _, _, _, _, _, _, _, _, _, _, _, _, _, _, _, _, _, _, _, _, _, _, _, _, _, _, _, _, _, _, _, _, _, _, _, _, _, _, _, _, _, _, _, _, _, _, _, _, _, _, _, _, _, _, _, _, _] _) _; go_wp2; refine ⟨rfl, rfl, ?_, rfl⟩; first | exact Below.refl _ _ | assumption | exact below_drewN (Below.refl _ _) _
    refine ⟨?_, ?_⟩
    · rintro x W ⟨hg, hg_6, hg_7, hy, hy_2, hp, hp_0, hp_1, hp_2, hp_3, hp_4, hp_5, hC⟩ Q hQ; change wpList _ _ _ _ (Act.mk #[_, _, _, _, _, _, _, _, _, _, _, _, _, _, _, _, _, _, _, _, _, _, _, _, _, _, _, _, _, _, _, _, _, _, _, _, _, _, _, _, _, _, _, _, _, _, _, _, _, _, _, _, _, _, _, _, _, _, _, _, _, _, _, _, _, _, _, _, _, _, _, _, _, _, _, _, _, _, _, _, _, _, _, _, _] _) _; go_wp2; refine ⟨rfl, rfl, ?_, rfl⟩; first | exact Below.refl _ _ | assumption | exact below_drewN (Below.refl _ _) _
    refine ⟨?_, ?_⟩
    · rintro x W ⟨hg, hg_6, hg_7, hy, hy_2, hp, hp_0, hp_1, hp_2, hp_3, hp_4, hp_5, hC⟩ Q hQ; change wpList _ _ _ _ (Act.mk #[_, _, _, _, _, _, _, _, _, _, _, _, _, _, _, _, _, _, _, _, _, _, _, _, _, _, _, _, _, _, _, _, _, _, _, _, _, _, _, _, _, _, _, _, _, _, _, _, _, _, _, _, _, _, _, _, _, _, _, _, _, _, _, _, _, _, _, _, _, _, _, _, _, _, _, _, _, _, _, _, _, _, _, _, _] _) _; go_wp2; refine ⟨rfl, rfl, ?_, rfl⟩; first | exact Below.refl _ _ | assumption | exact below_drewN (Below.refl _ _) _
    refine ⟨?_, ?_⟩
    · rintro x W ⟨hg, hg_6, hg_7, hy, hy_2, hp, hp_0, hp_1, hp_2, hp_3, hp_4, hp_5, hC⟩ Q hQ; change wpList _ _ _ _ (Act.mk #[_, _, _, _, _, _, _, _, _, _, _, _, _, _, _, _, _, _, _, _, _, _, _, _, _, _, _, _, _, _, _, _, _, _, _, _, _, _, _, _, _, _, _, _, _, _, _, _, _, _, _, _, _, _, _, _, _, _, _, _, _, _, _, _, _, _, _, _, _, _, _, _, _, _, _, _, _, _, _, _, _, _, _, _, _] _) _; go_wp2; refine ⟨rfl, rfl, ?_, rfl⟩; first | exact Below.refl _ _ | assumption | exact below_drewN (Below.refl _ _) _
    refine ⟨?_, ?_⟩
    · rintro x W ⟨hg, hg_6, hg_7, hy, hy_2, hp, hp_0, hp_1, hp_2, hp_3, hp_4, hp_5, hC⟩ Q hQ; change wpList _ _ _ _ (Act.mk #[_, _, _, _, _, _, _, _, _, _, _, _, _, _, _, _, _, _, _, _, _, _, _, _, _, _, _, _, _, _, _, _, _, _, _, _, _, _, _, _, _, _, _, _, _, _, _, _, _, _, _, _, _, _, _, _, _, _, _, _, _, _, _, _, _, _, _, _, _, _, _, _, _, _, _, _, _, _, _, _, _, _, _, _, _] _) _; go_wp2; refine ⟨rfl, rfl, ?_, rfl⟩; first | exact Below.refl _ _ | assumption | exact below_drewN (Below.refl _ _) _
    refine ⟨?_, ?_⟩
    · rintro x W ⟨hg, hg_6, hg_7, hy, hy_2, hp, hp_0, hp_1, hp_2, hp_3, hp_4, hp_5, hC⟩ Q hQ; change wpList _ _ _ _ (Act.mk #[_, _, _, _, _, _, _, _, _, _, _, _, _, _, _, _, _, _, _, _, _, _, _, _, _, _, _, _, _, _, _, _, _, _, _, _, _, _, _, _, _, _, _, _, _, _, _, _, _, _, _, _, _, _, _, _, _, _, _, _, _, _, _, _, _, _, _, _, _, _, _, _, _, _, _, _, _, _, _, _, _, _, _, _, _] _) _; go_wp2; refine ⟨rfl, rfl, ?_, rfl⟩; first | exact Below.refl _ _ | assumption | exact below_drewN (Below.refl _ _) _
    refine ⟨?_, ?_⟩
    · rintro x W ⟨hg, hg_6, hg_7, hy, hy_2, hp, hp_0, hp_1, hp_2, hp_3, hp_4, hp_5, hC⟩ Q hQ; change wpList _ _ _ _ (Act.mk #[_, _, _, _, _, _, _, _, _, _, _, _, _, _, _, _, _, _, _, _, _, _, _, _, _, _, _, _, _, _, _, _, _, _, _, _, _, _, _, _, _, _, _, _, _, _, _, _, _, _, _, _, _, _, _, _, _, _, _, _, _, _, _, _, _, _, _, _, _, _, _, _, _, _, _, _, _, _, _, _, _, _, _, _, _] _) _; go_wp2; refine ⟨rfl, rfl, ?_, rfl⟩; first | exact Below.refl _ _ | assumption | exact below_drewN (Below.refl _ _) _
    trivial
  intro x W hS_ hb
  obtain ⟨hg, hg_6, hg_7, hy, hy_2, hp, hp_0, hp_1, hp_2, hp_3, hp_4, hp_5, hC⟩ := hS_
  change wpList _ _ _ _ _ _
  simp only [overlay, pairs, GW.look, if_true, if_false]
  have HG := gb_below HG hb
  have KT := KT.trans (.below hb (Nat.zero_le _))
  have fz := fun i => free_of W (w.heap.size + 1) i _ _ hp
  have fg := fun i => free_of W g i _ _ hg
  go_wp2
  have KT := KT.trans (.setCell hp (Nat.zero_le _) (by decide) 2 none (.int .i64 (max 0 (min (du + s) (bal + profit)))))
  have hp := bk_set (hp) 2 (.int .i64 (max 0 (min (du + s) (bal + profit))))
  have hg := bk_far (hg) ⟨w.heap.size + 1, 2, none⟩ (.int .i64 (max 0 (min (du + s) (bal + profit)))) (by show g ≠ w.heap.size + 1; omega)
  have hy := bk_far (hy) ⟨w.heap.size + 1, 2, none⟩ (.int .i64 (max 0 (min (du + s) (bal + profit)))) (by show w.heap.size ≠ w.heap.size + 1; omega)
  have hC := ci_far (hC) ⟨w.heap.size + 1, 2, none⟩ (.int .i64 (max 0 (min (du + s) (bal + profit)))) (hneP.out)
  have HG := gb_set (HG) (p := ⟨w.heap.size + 1, 2, none⟩) (.inr (by show w.heap.size ≤ w.heap.size + 1; omega)) (.int .i64 (max 0 (min (du + s) (bal + profit))))
  clear fz fg hb
  rw [show max 0 (min (du + s) (bal + profit)) = pd from Hpd.out.symm] at *
  simp only [List.setIfInBounds_toArray, List.set_cons_succ, List.set_cons_zero] at hp hg hy
  refine wp_region_sep [9] [] [some 40, some 41, some 42, some 43, some 44, some 45, some 46, some 47, some 48, none] [_] [none, none, none, none, none, none, none, none, none, some (fun _ _ => True)]
    (fun W => W.heap[g]? = some (.cells #[.int .i64 a0, .int .i64 a1, .int .i64 a2, .int .i64 a3, .int .i64 a4, .int .i64 a5, .int .i64 (bal + profit), .slice A r.length c] 54 (0, 0)) ∧ W.cell? ⟨g, 6, none⟩ = some (.int .i64 (bal + profit)) ∧ W.heap[w.heap.size]? = some (.cells #[.int .i64 price, .int .i64 cap, .int .i64 profit] 34 (0, 0)) ∧ W.heap[w.heap.size + 1]? = some (.cells #[.int .i64 rt, .int .i64 du, .int .i64 pd, .int .i64 0, .int .i64 0, .int .i64 0] 32 (0, 0)) ∧ W.cell? ⟨w.heap.size + 1, 2, none⟩ = some (.int .i64 pd) ∧ Kd.C (Kd.int .i64) W A r.length r)
    (by kernel_rfl) (by kernel_rfl) (by kernel_rfl) rfl rfl (by kernel_rfl) (fun _ d _ _ _ h => by cases d <;> exact h) ?hS (fun W W' ⟨hg, hg_6, hy, hp, hp_2, hC⟩ hb => ⟨kblk hb hg, kcell hb hg_6, kblk hb hy, kblk hb hp, kcell hb hp_2, kCi hb hC⟩) ?_
  case hS =>
    refine ⟨?_, ?_, ?_, ?_, ?_, ?_⟩
    · exact hg
    · exact cell_of_row _ _ 6 _ _ _ hg
    · exact hy
    · exact hp
    · exact cell_of_row _ _ 2 _ _ _ hp
    · first | assumption | (go_simp; done)
  simp only [exN]
  repeat apply Exists.intro
  refine ⟨?_, ?_⟩
  · -- the operations
    refine ⟨?_, ?_⟩
    · rintro x W ⟨hg, hg_6, hy, hp, hp_2, hC⟩ Q hQ; change wpList _ _ _ _ (Act.mk #[_, _, _, _, _, _, _, _, _, _, _, _, _, _, _, _, _, _, _, _, _, _, _, _, _, _, _, _, _, _, _, _, _, _, _, _, _, _, _, _, _, _, _, _, _, _, _, _, _, _, _, _, _, _, _, _, _, _, _, _, _, _, _, _, _, _, _, _, _, _, _, _, _, _, _, _, _, _, _, _, _, _, _, _, _] _) _; go_wp2; refine ⟨rfl, rfl, ?_, rfl⟩; first | exact Below.refl _ _ | assumption | exact below_drewN (Below.refl _ _) _
    refine ⟨?_, ?_⟩
    · rintro x W ⟨hg, hg_6, hy, hp, hp_2, hC⟩ Q hQ; change wpList _ _ _ _ (Act.mk #[_, _, _, _, _, _, _, _, _, _, _, _, _, _, _, _, _, _, _, _, _, _, _, _, _, _, _, _, _, _, _, _, _, _, _, _, _, _, _, _, _, _, _, _, _, _, _, _, _, _, _, _, _, _, _, _, _, _, _, _, _, _, _, _, _, _, _, _, _, _, _, _, _, _, _, _, _, _, _, _, _, _, _, _, _] _) _; go_wp2; refine ⟨rfl, rfl, ?_, rfl⟩; first | exact Below.refl _ _ | assumption | exact below_drewN (Below.refl _ _) _
    refine ⟨?_, ?_⟩
    · rintro x W ⟨hg, hg_6, hy, hp, hp_2, hC⟩ Q hQ; change wpList _ _ _ _ (Act.mk #[_, _, _, _, _, _, _, _, _, _, _, _, _, _, _, _, _, _, _, _, _, _, _, _, _, _, _, _, _, _, _, _, _, _, _, _, _, _, _, _, _, _, _, _, _, _, _, _, _, _, _, _, _, _, _, _, _, _, _, _, _, _, _, _, _, _, _, _, _, _, _, _, _, _, _, _, _, _, _, _, _, _, _, _, _] _) _; go_wp2; refine ⟨rfl, rfl, ?_, rfl⟩; first | exact Below.refl _ _ | assumption | exact below_drewN (Below.refl _ _) _
    refine ⟨?_, ?_⟩
    · rintro x W ⟨hg, hg_6, hy, hp, hp_2, hC⟩ Q hQ; change wpList _ _ _ _ (Act.mk #[_, _, _, _, _, _, _, _, _, _, _, _, _, _, _, _, _, _, _, _, _, _, _, _, _, _, _, _, _, _, _, _, _, _, _, _, _, _, _, _, _, _, _, _, _, _, _, _, _, _, _, _, _, _, _, _, _, _, _, _, _, _, _, _, _, _, _, _, _, _, _, _, _, _, _, _, _, _, _, _, _, _, _, _, _] _) _; go_wp2; refine ⟨rfl, rfl, ?_, rfl⟩; first | exact Below.refl _ _ | assumption | exact below_drewN (Below.refl _ _) _
    refine ⟨?_, ?_⟩
    · rintro x W ⟨hg, hg_6, hy, hp, hp_2, hC⟩ Q hQ; change wpList _ _ _ _ (Act.mk #[_, _, _, _, _, _, _, _, _, _, _, _, _, _, _, _, _, _, _, _, _, _, _, _, _, _, _, _, _, _, _, _, _, _, _, _, _, _, _, _, _, _, _, _, _, _, _, _, _, _, _, _, _, _, _, _, _, _, _, _, _, _, _, _, _, _, _, _, _, _, _, _, _, _, _, _, _, _, _, _, _, _, _, _, _] _) _; go_wp2; refine ⟨rfl, rfl, ?_, rfl⟩; first | exact Below.refl _ _ | assumption | exact below_drewN (Below.refl _ _) _
    refine ⟨?_, ?_⟩
    · rintro x W ⟨hg, hg_6, hy, hp, hp_2, hC⟩ Q hQ; change wpList _ _ _ _ (Act.mk #[_, _, _, _, _, _, _, _, _, _, _, _, _, _, _, _, _, _, _, _, _, _, _, _, _, _, _, _, _, _, _, _, _, _, _, _, _, _, _, _, _, _, _, _, _, _, _, _, _, _, _, _, _, _, _, _, _, _, _, _, _, _, _, _, _, _, _, _, _, _, _, _, _, _, _, _, _, _, _, _, _, _, _, _, _] _) _; go_wp2; refine ⟨rfl, rfl, ?_, rfl⟩; first | exact Below.refl _ _ | assumption | exact below_drewN (Below.refl _ _) _
    refine ⟨?_, ?_⟩
    · rintro x W ⟨hg, hg_6, hy, hp, hp_2, hC⟩ Q hQ; change wpList _ _ _ _ (Act.mk #[_, _, _, _, _, _, _, _, _, _, _, _, _, _, _, _, _, _, _, _, _, _, _, _, _, _, _, _, _, _, _, _, _, _, _, _, _, _, _, _, _, _, _, _, _, _, _, _, _, _, _, _, _, _, _, _, _, _, _, _, _, _, _, _, _, _, _, _, _, _, _, _, _, _, _, _, _, _, _, _, _, _, _, _, _] _) _; go_wp2; refine ⟨rfl, rfl, ?_, rfl⟩; first | exact Below.refl _ _ | assumption | exact below_drewN (Below.refl _ _) _
    refine ⟨?_, ?_⟩
    · rintro x W ⟨hg, hg_6, hy, hp, hp_2, hC⟩ Q hQ; change wpList _ _ _ _ (Act.mk #[_, _, _, _, _, _, _, _, _, _, _, _, _, _, _, _, _, _, _, _, _, _, _, _, _, _, _, _, _, _, _, _, _, _, _, _, _, _, _, _, _, _, _, _, _, _, _, _, _, _, _, _, _, _, _, _, _, _, _, _, _, _, _, _, _, _, _, _, _, _, _, _, _, _, _, _, _, _, _, _, _, _, _, _, _] _) _; go_wp2; refine ⟨rfl, rfl, ?_, rfl⟩; first | exact Below.refl _ _ | assumption | exact below_drewN (Below.refl _ _) _
    refine ⟨?_, ?_⟩
    · rintro x W ⟨hg, hg_6, hy, hp, hp_2, hC⟩ Q hQ; change wpList _ _ _ _ (Act.mk #[_, _, _, _, _, _, _, _, _, _, _, _, _, _, _, _, _, _, _, _, _, _, _, _, _, _, _, _, _, _, _, _, _, _, _, _, _, _, _, _, _, _, _, _, _, _, _, _, _, _, _, _, _, _, _, _, _, _, _, _, _, _, _, _, _, _, _, _, _, _, _, _, _, _, _, _, _, _, _, _, _, _, _, _, _] _) _; go_wp2; refine ⟨rfl, rfl, ?_, rfl⟩; first | exact Below.refl _ _ | assumption | exact below_drewN (Below.refl _ _) _
    trivial
  intro x W hS_ hb
  obtain ⟨hg, hg_6, hy, hp, hp_2, hC⟩ := hS_
  change wpList _ _ _ _ _ _
  simp only [overlay, pairs, GW.look, if_true, if_false]
  have HG := gb_below HG hb
  have KT := KT.trans (.below hb (Nat.zero_le _))
  have fz := fun i => free_of W (w.heap.size + 1) i _ _ hp
  have fg := fun i => free_of W g i _ _ hg
  have KT := KT.trans (.setCell hg (Nat.zero_le _) (by decide) 6 none (.int .i64 (bal + profit - pd)))
  have hg := bk_set hg 6 (.int .i64 (bal + profit - pd))
  simp only [List.setIfInBounds_toArray, List.set_cons_succ, List.set_cons_zero] at hg
  have hp := bk_far hp ⟨g, 6, none⟩ (.int .i64 (bal + profit - pd)) (by show w.heap.size + 1 ≠ g; omega)
  have hy := bk_far hy ⟨g, 6, none⟩ (.int .i64 (bal + profit - pd)) (by show w.heap.size ≠ g; omega)
  have hC := ci_far hC ⟨g, 6, none⟩ (.int .i64 (bal + profit - pd)) (fun _ => hne.out)
  have HG := gb_set HG (p := ⟨g, 6, none⟩) (.inl rfl) (.int .i64 (bal + profit - pd))
  have hI : IsCo _ g a0 a1 a2 a3 a4 a5 (bal + profit - pd) r := ⟨A, c, hg, hlc, hcm, hC, fun ad e => (hty.out ad e).imp fun cs h => KT.blk _ _ _ _ h rfl⟩
  have hp1 := cell_of_row _ (w.heap.size + 1) 1 _ _ _ hp
  have hp2 := cell_of_row _ (w.heap.size + 1) 2 _ _ _ hp
  clear hC hg hne hb
  have hlp := bk_lt hp
  have hlg := bk_lt hg
  obtain ⟨R, hR⟩ : ∃ R, R = settle a5 r du pd := ⟨_, rfl⟩
  have HR := Lib.hid hR
  have hrR : ArrOk R := by rw [hR]; exact settle_ok (a5 := a5) hr hf5.1 hf5.2 hdu0 hdu1 hpb.1
  clear hR
  go_wp2_with (first
    | (go_at_call 32; go_loud (refine (settle_any g a0 a1 a2 a3 a4 a5 (bal + profit - pd) du pd r _ hI hr hf5.1 hf5.2 hdu0 hdu1 (by omega) hpb.2.1).mono ?_; rintro e w1 ⟨rfl, hI, hG1⟩; rw [← HR.out] at hI; have hy := gb_blk hG1 hy (by simp; omega); have hp := gb_blk hG1 hp (by simp; omega); have HG := gb_trans HG hG1; obtain ⟨A, c, hg, hlc, hcm, hC, hne, hty⟩ := hI; have KT := KeepsT.refl 0 (fun t => t = 3) w1; have hty := Lib.hid hty; have hg7 := cell_of_row _ g 7 _ _ _ hg; have hp3 := cell_of_row _ (w.heap.size + 1) 3 _ _ _ hp; have fz := fun i => free_of w1 (w.heap.size + 1) i _ _ hp))
    | (go_at_call 20; go_loud (refine (owed_any g A c R _ hg7 hrR hC).mono ?_; rintro e w2 ⟨rfl, rfl⟩)))
  have hneR : 0 < R.length → ∀ ad, A = some ad → ad.block ≠ w.heap.size + 1 := fun _ ad e => by have := hne ad e; omega
  have hneG : ∀ ad, A = some ad → ad.block ≠ g := fun ad e => by have := hne ad e; omega
  have hneR := Lib.hid hneR
  have hneG := Lib.hid hneG
  clear hne fz hg7 hp3
  have KT := KT.trans (.setCell hp (Nat.zero_le _) (by decide) 3 none (.int .i64 R.sum))
  have hp := bk_set hp 3 (.int .i64 R.sum)
  simp only [List.setIfInBounds_toArray, List.set_cons_succ, List.set_cons_zero] at hp
  have hg := bk_far hg ⟨w.heap.size + 1, 3, none⟩ (.int .i64 R.sum) (by show g ≠ w.heap.size + 1; omega)
  have hy := bk_far hy ⟨w.heap.size + 1, 3, none⟩ (.int .i64 R.sum) (by show w.heap.size ≠ w.heap.size + 1; omega)
  have hC := ci_far hC ⟨w.heap.size + 1, 3, none⟩ (.int .i64 R.sum) (hneR.out)
  have HG := gb_set HG (p := ⟨w.heap.size + 1, 3, none⟩) (.inr (by show w.heap.size ≤ w.heap.size + 1; omega)) (.int .i64 R.sum)
  obtain ⟨b1, hb1⟩ : ∃ b1, b1 = bal + profit - pd := ⟨_, rfl⟩
  rw [← hb1] at hg
  have Hb1 := Lib.hid hb1
  have hb2 : -70368744177664 - 1099511627776 * 9 ≤ b1 ∧ b1 ≤ 70368744177664 + 1099511627776 := by omega
  clear hb1
  refine wp_region_sep [12] [] [some 58, some 59, some 60, some 61, some 62, some 63, some 64, some 65, some 66, some 67, some 68, some 69, none] [_] [none, none, none, none, none, none, none, none, none, none, none, none, some (fun _ _ => True)]
    (fun W => W.heap[g]? = some (.cells #[.int .i64 a0, .int .i64 a1, .int .i64 a2, .int .i64 a3, .int .i64 a4, .int .i64 a5, .int .i64 b1, .slice A R.length c] 54 (0, 0)) ∧ W.cell? ⟨g, 4, none⟩ = some (.int .i64 a4) ∧ W.cell? ⟨g, 6, none⟩ = some (.int .i64 b1) ∧ W.heap[w.heap.size + 1]? = some (.cells #[.int .i64 rt, .int .i64 du, .int .i64 pd, .int .i64 R.sum, .int .i64 0, .int .i64 0] 32 (0, 0)) ∧ W.cell? ⟨w.heap.size + 1, 5, none⟩ = some (.int .i64 0) ∧ Kd.C (Kd.int .i64) W A R.length R)
    (by kernel_rfl) (by kernel_rfl) (by kernel_rfl) rfl rfl (by kernel_rfl) (fun _ d _ _ _ h => by cases d <;> exact h) ?hS (fun W W' ⟨hg, hg_4, hg_6, hp, hp_5, hC⟩ hb => ⟨kblk hb hg, kcell hb hg_4, kcell hb hg_6, kblk hb hp, kcell hb hp_5, kCi hb hC⟩) ?_
  case hS =>
    refine ⟨?_, ?_, ?_, ?_, ?_, ?_⟩
    · exact hg
    · exact cell_of_row _ _ 4 _ _ _ hg
    · exact cell_of_row _ _ 6 _ _ _ hg
    · exact hp
    · exact cell_of_row _ _ 5 _ _ _ hp
    · first | assumption | (go_simp; done)
  simp only [exN]
  repeat apply Exists.intro
  refine ⟨?_, ?_⟩
  · -- the operations
    refine ⟨?_, ?_⟩
    · rintro x W ⟨hg, hg_4, hg_6, hp, hp_5, hC⟩ Q hQ; change wpList _ _ _ _ (Act.mk #[_, _, _, _, _, _, _, _, _, _, _, _, _, _, _, _, _, _, _, _, _, _, _, _, _, _, _, _, _, _, _, _, _, _, _, _, _, _, _, _, _, _, _, _, _, _, _, _, _, _, _, _, _, _, _, _, _, _, _, _, _, _, _, _, _, _, _, _, _, _, _, _, _, _, _, _, _, _, _, _, _, _, _, _, _] _) _; go_wp2; refine ⟨rfl, rfl, ?_, rfl⟩; first | exact Below.refl _ _ | assumption | exact below_drewN (Below.refl _ _) _
    refine ⟨?_, ?_⟩
    · rintro x W ⟨hg, hg_4, hg_6, hp, hp_5, hC⟩ Q hQ; change wpList _ _ _ _ (Act.mk #[_, _, _, _, _, _, _, _, _, _, _, _, _, _, _, _, _, _, _, _, _, _, _, _, _, _, _, _, _, _, _, _, _, _, _, _, _, _, _, _, _, _, _, _, _, _, _, _, _, _, _, _, _, _, _, _, _, _, _, _, _, _, _, _, _, _, _, _, _, _, _, _, _, _, _, _, _, _, _, _, _, _, _, _, _] _) _; go_wp2; refine ⟨rfl, rfl, ?_, rfl⟩; first | exact Below.refl _ _ | assumption | exact below_drewN (Below.refl _ _) _
    refine ⟨?_, ?_⟩
    · rintro x W ⟨hg, hg_4, hg_6, hp, hp_5, hC⟩ Q hQ; change wpList _ _ _ _ (Act.mk #[_, _, _, _, _, _, _, _, _, _, _, _, _, _, _, _, _, _, _, _, _, _, _, _, _, _, _, _, _, _, _, _, _, _, _, _, _, _, _, _, _, _, _, _, _, _, _, _, _, _, _, _, _, _, _, _, _, _, _, _, _, _, _, _, _, _, _, _, _, _, _, _, _, _, _, _, _, _, _, _, _, _, _, _, _] _) _; go_wp2; refine ⟨rfl, rfl, ?_, rfl⟩; first | exact Below.refl _ _ | assumption | exact below_drewN (Below.refl _ _) _
    refine ⟨?_, ?_⟩
    · rintro x W ⟨hg, hg_4, hg_6, hp, hp_5, hC⟩ Q hQ; change wpList _ _ _ _ (Act.mk #[_, _, _, _, _, _, _, _, _, _, _, _, _, _, _, _, _, _, _, _, _, _, _, _, _, _, _, _, _, _, _, _, _, _, _, _, _, _, _, _, _, _, _, _, _, _, _, _, _, _, _, _, _, _, _, _, _, _, _, _, _, _, _, _, _, _, _, _, _, _, _, _, _, _, _, _, _, _, _, _, _, _, _, _, _] _) _; go_wp2; refine ⟨rfl, rfl, ?_, rfl⟩; first | exact Below.refl _ _ | assumption | exact below_drewN (Below.refl _ _) _
    refine ⟨?_, ?_⟩
    · rintro x W ⟨hg, hg_4, hg_6, hp, hp_5, hC⟩ Q hQ; change wpList _ _ _ _ (Act.mk #[_, _, _, _, _, _, _, _, _, _, _, _, _, _, _, _, _, _, _, _, _, _, _, _, _, _, _, _, _, _, _, _, _, _, _, _, _, _, _, _, _, _, _, _, _, _, _, _, _, _, _, _, _, _, _, _, _, _, _, _, _, _, _, _, _, _, _, _, _, _, _, _, _, _, _, _, _, _, _, _, _, _, _, _, _] _) _; go_wp2; refine ⟨rfl, rfl, ?_, rfl⟩; first | exact Below.refl _ _ | assumption | exact below_drewN (Below.refl _ _) _
    refine ⟨?_, ?_⟩
    · rintro x W ⟨hg, hg_4, hg_6, hp, hp_5, hC⟩ Q hQ; change wpList _ _ _ _ (Act.mk #[_, _, _, _, _, _, _, _, _, _, _, _, _, _, _, _, _, _, _, _, _, _, _, _, _, _, _, _, _, _, _, _, _, _, _, _, _, _, _, _, _, _, _, _, _, _, _, _, _, _, _, _, _, _, _, _, _, _, _, _, _, _, _, _, _, _, _, _, _, _, _, _, _, _, _, _, _, _, _, _, _, _, _, _, _] _) _; go_wp2; refine ⟨rfl, rfl, ?_, rfl⟩; first | exact Below.refl _ _ | assumption | exact below_drewN (Below.refl _ _) _
    refine ⟨?_, ?_⟩
    · rintro x W ⟨hg, hg_4, hg_6, hp, hp_5, hC⟩ Q hQ; change wpList _ _ _ _ (Act.mk #[_, _, _, _, _, _, _, _, _, _, _, _, _, _, _, _, _, _, _, _, _, _, _, _, _, _, _, _, _, _, _, _, _, _, _, _, _, _, _, _, _, _, _, _, _, _, _, _, _, _, _, _, _, _, _, _, _, _, _, _, _, _, _, _, _, _, _, _, _, _, _, _, _, _, _, _, _, _, _, _, _, _, _, _, _] _) _; go_wp2; refine ⟨rfl, rfl, ?_, rfl⟩; first | exact Below.refl _ _ | assumption | exact below_drewN (Below.refl _ _) _
    refine ⟨?_, ?_⟩
    · rintro x W ⟨hg, hg_4, hg_6, hp, hp_5, hC⟩ Q hQ; change wpList _ _ _ _ (Act.mk #[_, _, _, _, _, _, _, _, _, _, _, _, _, _, _, _, _, _, _, _, _, _, _, _, _, _, _, _, _, _, _, _, _, _, _, _, _, _, _, _, _, _, _, _, _, _, _, _, _, _, _, _, _, _, _, _, _, _, _, _, _, _, _, _, _, _, _, _, _, _, _, _, _, _, _, _, _, _, _, _, _, _, _, _, _] _) _; go_wp2; refine ⟨rfl, rfl, ?_, rfl⟩; first | exact Below.refl _ _ | assumption | exact below_drewN (Below.refl _ _) _
    refine ⟨?_, ?_⟩
    · rintro x W ⟨hg, hg_4, hg_6, hp, hp_5, hC⟩ Q hQ; change wpList _ _ _ _ (Act.mk #[_, _, _, _, _, _, _, _, _, _, _, _, _, _, _, _, _, _, _, _, _, _, _, _, _, _, _, _, _, _, _, _, _, _, _, _, _, _, _, _, _, _, _, _, _, _, _, _, _, _, _, _, _, _, _, _, _, _, _, _, _, _, _, _, _, _, _, _, _, _, _, _, _, _, _, _, _, _, _, _, _, _, _, _, _] _) _; go_wp2; refine ⟨rfl, rfl, ?_, rfl⟩; first | exact Below.refl _ _ | assumption | exact below_drewN (Below.refl _ _) _
    refine ⟨?_, ?_⟩
    · rintro x W ⟨hg, hg_4, hg_6, hp, hp_5, hC⟩ Q hQ; change wpList _ _ _ _ (Act.mk #[_, _, _, _, _, _, _, _, _, _, _, _, _, _, _, _, _, _, _, _, _, _, _, _, _, _, _, _, _, _, _, _, _, _, _, _, _, _, _, _, _, _, _, _, _, _, _, _, _, _, _, _, _, _, _, _, _, _, _, _, _, _, _, _, _, _, _, _, _, _, _, _, _, _, _, _, _, _, _, _, _, _, _, _, _] _) _; go_wp2; refine ⟨rfl, rfl, ?_, rfl⟩; first | exact Below.refl _ _ | assumption | exact below_drewN (Below.refl _ _) _
    refine ⟨?_, ?_⟩
    · rintro x W ⟨hg, hg_4, hg_6, hp, hp_5, hC⟩ Q hQ; change wpList _ _ _ _ (Act.mk #[_, _, _, _, _, _, _, _, _, _, _, _, _, _, _, _, _, _, _, _, _, _, _, _, _, _, _, _, _, _, _, _, _, _, _, _, _, _, _, _, _, _, _, _, _, _, _, _, _, _, _, _, _, _, _, _, _, _, _, _, _, _, _, _, _, _, _, _, _, _, _, _, _, _, _, _, _, _, _, _, _, _, _, _, _] _) _; go_wp2; refine ⟨rfl, rfl, ?_, rfl⟩; first | exact Below.refl _ _ | assumption | exact below_drewN (Below.refl _ _) _
    refine ⟨?_, ?_⟩
    · rintro x W ⟨hg, hg_4, hg_6, hp, hp_5, hC⟩ Q hQ; change wpList _ _ _ _ (Act.mk #[_, _, _, _, _, _, _, _, _, _, _, _, _, _, _, _, _, _, _, _, _, _, _, _, _, _, _, _, _, _, _, _, _, _, _, _, _, _, _, _, _, _, _, _, _, _, _, _, _, _, _, _, _, _, _, _, _, _, _, _, _, _, _, _, _, _, _, _, _, _, _, _, _, _, _, _, _, _, _, _, _, _, _, _, _] _) _; go_wp2; refine ⟨rfl, rfl, ?_, rfl⟩; first | exact Below.refl _ _ | assumption | exact below_drewN (Below.refl _ _) _
    trivial
  intro x W hS_ hb
  obtain ⟨hg, hg_4, hg_6, hp, hp_5, hC⟩ := hS_
  change wpList _ _ _ _ _ _
  simp only [overlay, pairs, GW.look, if_true, if_false]
  have HG := gb_below HG hb
  have KT := KT.trans (.below hb (Nat.zero_le _))
  have fz := fun i => free_of W (w.heap.size + 1) i _ _ hp
  have fg := fun i => free_of W g i _ _ hg
  go_wp2
  obtain ⟨dv, hdv⟩ : ∃ dv, dv = max 0 (b1 - a4) := ⟨_, rfl⟩
  rw [← hdv]
  have Hdv := Lib.hid hdv
  have hdb : -1100000000000000 ≤ b1 - dv ∧ b1 - dv ≤ 1100000000000000 := by omega
  clear hdv
  have KT := KT.trans (.setCell hp (Nat.zero_le _) (by decide) 5 none (.int .i64 dv))
  have hp := bk_set hp 5 (.int .i64 dv)
  simp only [List.setIfInBounds_toArray, List.set_cons_succ, List.set_cons_zero] at hp
  have hg := bk_far hg ⟨w.heap.size + 1, 5, none⟩ (.int .i64 dv) (by show g ≠ w.heap.size + 1; omega)
  have hC := ci_far hC ⟨w.heap.size + 1, 5, none⟩ (.int .i64 dv) (hneR.out)
  have HG := gb_set HG (p := ⟨w.heap.size + 1, 5, none⟩) (.inr (by show w.heap.size ≤ w.heap.size + 1; omega)) (.int .i64 dv)
  clear fz fg hb
  refine wp_region_sep [9] [] [some 70, some 71, some 72, some 73, some 74, some 75, some 76, some 77, some 78, none] [_] [none, none, none, none, none, none, none, none, none, some (fun _ _ => True)]
    (fun W => W.heap[g]? = some (.cells #[.int .i64 a0, .int .i64 a1, .int .i64 a2, .int .i64 a3, .int .i64 a4, .int .i64 a5, .int .i64 b1, .slice A R.length c] 54 (0, 0)) ∧ W.cell? ⟨g, 6, none⟩ = some (.int .i64 b1) ∧ W.heap[w.heap.size + 1]? = some (.cells #[.int .i64 rt, .int .i64 du, .int .i64 pd, .int .i64 R.sum, .int .i64 0, .int .i64 dv] 32 (0, 0)) ∧ W.cell? ⟨w.heap.size + 1, 0, none⟩ = some (.int .i64 rt) ∧ W.cell? ⟨w.heap.size + 1, 1, none⟩ = some (.int .i64 du) ∧ W.cell? ⟨w.heap.size + 1, 2, none⟩ = some (.int .i64 pd) ∧ W.cell? ⟨w.heap.size + 1, 3, none⟩ = some (.int .i64 R.sum) ∧ W.cell? ⟨w.heap.size + 1, 4, none⟩ = some (.int .i64 0) ∧ W.cell? ⟨w.heap.size + 1, 5, none⟩ = some (.int .i64 dv) ∧ Kd.C (Kd.int .i64) W A R.length R)
    (by kernel_rfl) (by kernel_rfl) (by kernel_rfl) rfl rfl (by kernel_rfl) (fun _ d _ _ _ h => by cases d <;> exact h) ?hS (fun W W' ⟨hg, hg_6, hp, hp_0, hp_1, hp_2, hp_3, hp_4, hp_5, hC⟩ hb => ⟨kblk hb hg, kcell hb hg_6, kblk hb hp, kcell hb hp_0, kcell hb hp_1, kcell hb hp_2, kcell hb hp_3, kcell hb hp_4, kcell hb hp_5, kCi hb hC⟩) ?_
  case hS =>
    refine ⟨?_, ?_, ?_, ?_, ?_, ?_, ?_, ?_, ?_, ?_⟩
    · exact hg
    · exact cell_of_row _ _ 6 _ _ _ hg
    · exact hp
    · exact cell_of_row _ _ 0 _ _ _ hp
    · exact cell_of_row _ _ 1 _ _ _ hp
    · exact cell_of_row _ _ 2 _ _ _ hp
    · exact cell_of_row _ _ 3 _ _ _ hp
    · exact cell_of_row _ _ 4 _ _ _ hp
    · exact cell_of_row _ _ 5 _ _ _ hp
    · first | assumption | (go_simp; done)
  simp only [exN]
  repeat apply Exists.intro
  refine ⟨?_, ?_⟩
  · -- the operations
    refine ⟨?_, ?_⟩
    · rintro x W ⟨hg, hg_6, hp, hp_0, hp_1, hp_2, hp_3, hp_4, hp_5, hC⟩ Q hQ; change wpList _ _ _ _ (Act.mk #[_, _, _, _, _, _, _, _, _, _, _, _, _, _, _, _, _, _, _, _, _, _, _, _, _, _, _, _, _, _, _, _, _, _, _, _, _, _, _, _, _, _, _, _, _, _, _, _, _, _, _, _, _, _, _, _, _, _, _, _, _, _, _, _, _, _, _, _, _, _, _, _, _, _, _, _, _, _, _, _, _, _, _, _, _] _) _; go_wp2; refine ⟨rfl, rfl, ?_, rfl⟩; first | exact Below.refl _ _ | assumption | exact below_drewN (Below.refl _ _) _
    refine ⟨?_, ?_⟩
    · rintro x W ⟨hg, hg_6, hp, hp_0, hp_1, hp_2, hp_3, hp_4, hp_5, hC⟩ Q hQ; change wpList _ _ _ _ (Act.mk #[_, _, _, _, _, _, _, _, _, _, _, _, _, _, _, _, _, _, _, _, _, _, _, _, _, _, _, _, _, _, _, _, _, _, _, _, _, _, _, _, _, _, _, _, _, _, _, _, _, _, _, _, _, _, _, _, _, _, _, _, _, _, _, _, _, _, _, _, _, _, _, _, _, _, _, _, _, _, _, _, _, _, _, _, _] _) _; go_wp2; refine ⟨rfl, rfl, ?_, rfl⟩; first | exact Below.refl _ _ | assumption | exact below_drewN (Below.refl _ _) _
    refine ⟨?_, ?_⟩
    · rintro x W ⟨hg, hg_6, hp, hp_0, hp_1, hp_2, hp_3, hp_4, hp_5, hC⟩ Q hQ; change wpList _ _ _ _ (Act.mk #[_, _, _, _, _, _, _, _, _, _, _, _, _, _, _, _, _, _, _, _, _, _, _, _, _, _, _, _, _, _, _, _, _, _, _, _, _, _, _, _, _, _, _, _, _, _, _, _, _, _, _, _, _, _, _, _, _, _, _, _, _, _, _, _, _, _, _, _, _, _, _, _, _, _, _, _, _, _, _, _, _, _, _, _, _] _) _; go_wp2; refine ⟨rfl, rfl, ?_, rfl⟩; first | exact Below.refl _ _ | assumption | exact below_drewN (Below.refl _ _) _
    refine ⟨?_, ?_⟩
    · rintro x W ⟨hg, hg_6, hp, hp_0, hp_1, hp_2, hp_3, hp_4, hp_5, hC⟩ Q hQ; change wpList _ _ _ _ (Act.mk #[_, _, _, _, _, _, _, _, _, _, _, _, _, _, _, _, _, _, _, _, _, _, _, _, _, _, _, _, _, _, _, _, _, _, _, _, _, _, _, _, _, _, _, _, _, _, _, _, _, _, _, _, _, _, _, _, _, _, _, _, _, _, _, _, _, _, _, _, _, _, _, _, _, _, _, _, _, _, _, _, _, _, _, _, _] _) _; go_wp2; refine ⟨rfl, rfl, ?_, rfl⟩; first | exact Below.refl _ _ | assumption | exact below_drewN (Below.refl _ _) _
    refine ⟨?_, ?_⟩
    · rintro x W ⟨hg, hg_6, hp, hp_0, hp_1, hp_2, hp_3, hp_4, hp_5, hC⟩ Q hQ; change wpList _ _ _ _ (Act.mk #[_, _, _, _, _, _, _, _, _, _, _, _, _, _, _, _, _, _, _, _, _, _, _, _, _, _, _, _, _, _, _, _, _, _, _, _, _, _, _, _, _, _, _, _, _, _, _, _, _, _, _, _, _, _, _, _, _, _, _, _, _, _, _, _, _, _, _, _, _, _, _, _, _, _, _, _, _, _, _, _, _, _, _, _, _] _) _; go_wp2; refine ⟨rfl, rfl, ?_, rfl⟩; first | exact Below.refl _ _ | assumption | exact below_drewN (Below.refl _ _) _
    refine ⟨?_, ?_⟩
    · rintro x W ⟨hg, hg_6, hp, hp_0, hp_1, hp_2, hp_3, hp_4, hp_5, hC⟩ Q hQ; change wpList _ _ _ _ (Act.mk #[_, _, _, _, _, _, _, _, _, _, _, _, _, _, _, _, _, _, _, _, _, _, _, _, _, _, _, _, _, _, _, _, _, _, _, _, _, _, _, _, _, _, _, _, _, _, _, _, _, _, _, _, _, _, _, _, _, _, _, _, _, _, _, _, _, _, _, _, _, _, _, _, _, _, _, _, _, _, _, _, _, _, _, _, _] _) _; go_wp2; refine ⟨rfl, rfl, ?_, rfl⟩; first | exact Below.refl _ _ | assumption | exact below_drewN (Below.refl _ _) _
    refine ⟨?_, ?_⟩
    · rintro x W ⟨hg, hg_6, hp, hp_0, hp_1, hp_2, hp_3, hp_4, hp_5, hC⟩ Q hQ; change wpList _ _ _ _ (Act.mk #[_, _, _, _, _, _, _, _, _, _, _, _, _, _, _, _, _, _, _, _, _, _, _, _, _, _, _, _, _, _, _, _, _, _, _, _, _, _, _, _, _, _, _, _, _, _, _, _, _, _, _, _, _, _, _, _, _, _, _, _, _, _, _, _, _, _, _, _, _, _, _, _, _, _, _, _, _, _, _, _, _, _, _, _, _] _) _; go_wp2; refine ⟨rfl, rfl, ?_, rfl⟩; first | exact Below.refl _ _ | assumption | exact below_drewN (Below.refl _ _) _
    refine ⟨?_, ?_⟩
    · rintro x W ⟨hg, hg_6, hp, hp_0, hp_1, hp_2, hp_3, hp_4, hp_5, hC⟩ Q hQ; change wpList _ _ _ _ (Act.mk #[_, _, _, _, _, _, _, _, _, _, _, _, _, _, _, _, _, _, _, _, _, _, _, _, _, _, _, _, _, _, _, _, _, _, _, _, _, _, _, _, _, _, _, _, _, _, _, _, _, _, _, _, _, _, _, _, _, _, _, _, _, _, _, _, _, _, _, _, _, _, _, _, _, _, _, _, _, _, _, _, _, _, _, _, _] _) _; go_wp2; refine ⟨rfl, rfl, ?_, rfl⟩; first | exact Below.refl _ _ | assumption | exact below_drewN (Below.refl _ _) _
    refine ⟨?_, ?_⟩
    · rintro x W ⟨hg, hg_6, hp, hp_0, hp_1, hp_2, hp_3, hp_4, hp_5, hC⟩ Q hQ; change wpList _ _ _ _ (Act.mk #[_, _, _, _, _, _, _, _, _, _, _, _, _, _, _, _, _, _, _, _, _, _, _, _, _, _, _, _, _, _, _, _, _, _, _, _, _, _, _, _, _, _, _, _, _, _, _, _, _, _, _, _, _, _, _, _, _, _, _, _, _, _, _, _, _, _, _, _, _, _, _, _, _, _, _, _, _, _, _, _, _, _, _, _, _] _) _; go_wp2; refine ⟨rfl, rfl, ?_, rfl⟩; first | exact Below.refl _ _ | assumption | exact below_drewN (Below.refl _ _) _
    trivial
  intro x W hS_ hb
  obtain ⟨hg, hg_6, hp, hp_0, hp_1, hp_2, hp_3, hp_4, hp_5, hC⟩ := hS_
  change wpList _ _ _ _ _ _
  simp only [overlay, pairs, GW.look, if_true, if_false]
  have HG := gb_below HG hb
  have KT := KT.trans (.below hb (Nat.zero_le _))
  have fz := fun i => free_of W (w.heap.size + 1) i _ _ hp
  have fg := fun i => free_of W g i _ _ hg
  have KT := KT.trans (.setCell hg (Nat.zero_le _) (by decide) 6 none (.int .i64 (b1 - dv)))
  have hg := bk_set hg 6 (.int .i64 (b1 - dv))
  simp only [List.setIfInBounds_toArray, List.set_cons_succ, List.set_cons_zero] at hg
  have hp := bk_far hp ⟨g, 6, none⟩ (.int .i64 (b1 - dv)) (by show w.heap.size + 1 ≠ g; omega)
  have hC := ci_far hC ⟨g, 6, none⟩ (.int .i64 (b1 - dv)) (fun _ => hneG.out)
  have HG := gb_set HG (p := ⟨g, 6, none⟩) (.inl rfl) (.int .i64 (b1 - dv))
  have fz := fun i => free_of _ (w.heap.size + 1) i _ _ hp
  have hg6 := cell_of_row _ g 6 _ _ _ hg
  have hp4 := cell_of_row _ (w.heap.size + 1) 4 _ _ _ hp
  have KT := KT.trans (.setCell hp (Nat.zero_le _) (by decide) 4 none (.int .i64 (b1 - dv)))
  have hp := bk_set hp 4 (.int .i64 (b1 - dv))
  simp only [List.setIfInBounds_toArray, List.set_cons_succ, List.set_cons_zero] at hp
  have hg := bk_far hg ⟨w.heap.size + 1, 4, none⟩ (.int .i64 (b1 - dv)) (by show g ≠ w.heap.size + 1; omega)
  have hC := ci_far hC ⟨w.heap.size + 1, 4, none⟩ (.int .i64 (b1 - dv)) (hneR.out)
  have HG := gb_set HG (p := ⟨w.heap.size + 1, 4, none⟩) (.inr (by show w.heap.size ≤ w.heap.size + 1; omega)) (.int .i64 (b1 - dv))
  go_wp2
  have KT := KT.trans (.setCell hp (Nat.zero_le _) (by decide) 0 none (.int .i64 rt))
  have hp := bk_set hp 0 (.int .i64 rt)
  simp only [List.setIfInBounds_toArray, List.set_cons_succ, List.set_cons_zero] at hp
  have hg := bk_far hg ⟨w.heap.size + 1, 0, none⟩ (.int .i64 rt) (by show g ≠ w.heap.size + 1; omega)
  have hC := ci_far hC ⟨w.heap.size + 1, 0, none⟩ (.int .i64 rt) (hneR.out)
  have HG := gb_set HG (p := ⟨w.heap.size + 1, 0, none⟩) (.inr (by show w.heap.size ≤ w.heap.size + 1; omega)) (.int .i64 rt)
  have KT := KT.trans (.setCell hp (Nat.zero_le _) (by decide) 1 none (.int .i64 du))
  have hp := bk_set hp 1 (.int .i64 du)
  simp only [List.setIfInBounds_toArray, List.set_cons_succ, List.set_cons_zero] at hp
  have hg := bk_far hg ⟨w.heap.size + 1, 1, none⟩ (.int .i64 du) (by show g ≠ w.heap.size + 1; omega)
  have hC := ci_far hC ⟨w.heap.size + 1, 1, none⟩ (.int .i64 du) (hneR.out)
  have HG := gb_set HG (p := ⟨w.heap.size + 1, 1, none⟩) (.inr (by show w.heap.size ≤ w.heap.size + 1; omega)) (.int .i64 du)
  have KT := KT.trans (.setCell hp (Nat.zero_le _) (by decide) 2 none (.int .i64 pd))
  have hp := bk_set hp 2 (.int .i64 pd)
  simp only [List.setIfInBounds_toArray, List.set_cons_succ, List.set_cons_zero] at hp
  have hg := bk_far hg ⟨w.heap.size + 1, 2, none⟩ (.int .i64 pd) (by show g ≠ w.heap.size + 1; omega)
  have hC := ci_far hC ⟨w.heap.size + 1, 2, none⟩ (.int .i64 pd) (hneR.out)
  have HG := gb_set HG (p := ⟨w.heap.size + 1, 2, none⟩) (.inr (by show w.heap.size ≤ w.heap.size + 1; omega)) (.int .i64 pd)
  have KT := KT.trans (.setCell hp (Nat.zero_le _) (by decide) 3 none (.int .i64 R.sum))
  have hp := bk_set hp 3 (.int .i64 R.sum)
  simp only [List.setIfInBounds_toArray, List.set_cons_succ, List.set_cons_zero] at hp
  have hg := bk_far hg ⟨w.heap.size + 1, 3, none⟩ (.int .i64 R.sum) (by show g ≠ w.heap.size + 1; omega)
  have hC := ci_far hC ⟨w.heap.size + 1, 3, none⟩ (.int .i64 R.sum) (hneR.out)
  have HG := gb_set HG (p := ⟨w.heap.size + 1, 3, none⟩) (.inr (by show w.heap.size ≤ w.heap.size + 1; omega)) (.int .i64 R.sum)
  have KT := KT.trans (.setCell hp (Nat.zero_le _) (by decide) 4 none (.int .i64 (b1 - dv)))
  have hp := bk_set hp 4 (.int .i64 (b1 - dv))
  simp only [List.setIfInBounds_toArray, List.set_cons_succ, List.set_cons_zero] at hp
  have hg := bk_far hg ⟨w.heap.size + 1, 4, none⟩ (.int .i64 (b1 - dv)) (by show g ≠ w.heap.size + 1; omega)
  have hC := ci_far hC ⟨w.heap.size + 1, 4, none⟩ (.int .i64 (b1 - dv)) (hneR.out)
  have HG := gb_set HG (p := ⟨w.heap.size + 1, 4, none⟩) (.inr (by show w.heap.size ≤ w.heap.size + 1; omega)) (.int .i64 (b1 - dv))
  have KT := KT.trans (.setCell hp (Nat.zero_le _) (by decide) 5 none (.int .i64 dv))
  have hp := bk_set hp 5 (.int .i64 dv)
  simp only [List.setIfInBounds_toArray, List.set_cons_succ, List.set_cons_zero] at hp
  have hg := bk_far hg ⟨w.heap.size + 1, 5, none⟩ (.int .i64 dv) (by show g ≠ w.heap.size + 1; omega)
  have hC := ci_far hC ⟨w.heap.size + 1, 5, none⟩ (.int .i64 dv) (hneR.out)
  have HG := gb_set HG (p := ⟨w.heap.size + 1, 5, none⟩) (.inr (by show w.heap.size ≤ w.heap.size + 1; omega)) (.int .i64 dv)
  refine bodyPost_ret (results_c rfl _ _ (w.heap.size + 1) 32 _ _ _ rfl hp Try.underlying32 rfl (by kernel_rfl)) rfl ?_
  rw [← HR.out, ← Hb1.out, ← Hdv.out]
  exact ⟨rfl, ⟨A, c, hg, hlc, hcm, hC, fun ad e => (hty.out ad e).imp fun cs h => KT.blk _ _ _ _ h rfl⟩, HG⟩
end Go.Proofs.Ytahfmaocihlcnaa
