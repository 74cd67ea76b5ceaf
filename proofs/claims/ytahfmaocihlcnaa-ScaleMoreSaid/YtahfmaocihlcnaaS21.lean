/- The closure of ScaleMore: the payments with another profit in the year k. -/
import Derived.Outline
import Derived.Test.YtahfmaocihlcnaaS20
import Derived.Test.YtahfmaocihlcnaaS18a
set_option linter.unusedVariables false
set_option linter.unusedSimpArgs false
namespace Go.Proofs.Ytahfmaocihlcnaa
open Go.RowKit Go.Shelf GW Go.Proofs.YtahfmaocihlcnaaW.PrintWords Go.Proofs.YtahfmaocihlcnaaW.PrintLast Go.Proofs.YtahfmaocihlcnaaW.PrintMore
attribute [local go_sem] max_ii min_ii

theorem info34 : (Try.prog.info? 34).map (fun i => (i.zero, i.size, i.bytes)) = some (some (.agg #[.int .i64 0, .int .i64 0, .int .i64 0]), 3, 24) := by kernel_rfl
theorem far_cells {W : World} {b : Nat} {cs : Array Value} {t : TypeId} (h : W.heap[b]? = some (.cells cs t (0, 0))) (g o : Nat) (u : Value) (hne : b < g) : (W.setCell ⟨g, o, none⟩ u).heap[b]? = some (.cells cs t (0, 0)) := bk_far h ⟨g, o, none⟩ u (Nat.ne_of_lt hne)
theorem far_cell {W : World} {b : Nat} {cs : Array Value} {t : TypeId} (h : W.heap[b]? = some (.cells cs t (0, 0))) (g o i : Nat) (u : Value) (hne : b < g) : (W.setCell ⟨g, o, none⟩ u).cell? ⟨b, i, none⟩ = cs[i]? := cell_of_row (W.setCell ⟨g, o, none⟩ u) b i cs t (0, 0) (far_cells h g o u hne)
theorem far6 {W : World} {b : Nat} {v0 v1 v2 v3 v4 v5 : Value} {t : TypeId} (h : W.heap[b]? = some (.cells #[v0, v1, v2, v3, v4, v5] t (0, 0))) (g o : Nat) (u : Value) (hne : b < g) :
    (W.setCell ⟨g, o, none⟩ u).cell? ⟨b, 0, none⟩ = some v0 ∧ (W.setCell ⟨g, o, none⟩ u).cell? ⟨b, 1, none⟩ = some v1 ∧ (W.setCell ⟨g, o, none⟩ u).cell? ⟨b, 2, none⟩ = some v2 ∧ (W.setCell ⟨g, o, none⟩ u).cell? ⟨b, 3, none⟩ = some v3 ∧
      (W.setCell ⟨g, o, none⟩ u).cell? ⟨b, 4, none⟩ = some v4 ∧ (W.setCell ⟨g, o, none⟩ u).cell? ⟨b, 5, none⟩ = some v5 :=
  ⟨far_cell h g o 0 u hne, far_cell h g o 1 u hne, far_cell h g o 2 u hne, far_cell h g o 3 u hne, far_cell h g o 4 u hne, far_cell h g o 5 u hne⟩
theorem yr_at {w : World} {g m : Nat} {ys : List Yr} (h : Kd.C kYr w (some ⟨g, 0, none⟩) m ys) (k : Nat) (y : Yr) (hy : ys[k]? = some y) : w.cell? ⟨g, k * 3 + 2, none⟩ = some (.int .i64 y.profit) := by
  obtain ⟨ad, e, hc⟩ := rec_get h k y hy
  cases e
  have h1 := hc 2 _ rfl
  have ha : (⟨g, 0, none⟩ : Addr).add (k * 3 + 2) = ⟨g, k * 3 + 2, none⟩ := by unfold Addr.add; rw [if_neg (by omega)]; simp
  rwa [ha] at h1
theorem yr_store {w : World} {g m : Nat} {ys : List Yr} (h : Kd.C kYr w (some ⟨g, 0, none⟩) m ys) {cs : Array Value} {t : TypeId} {fr : Nat × Nat} (hb : w.heap[g]? = some (.cells cs t fr)) (k : Nat) (y : Yr) (n : Int) (hy : ys[k]? = some y) :
    Kd.C kYr (w.setCell ⟨g, k * 3 + 2, none⟩ (.int .i64 n)) (some ⟨g, 0, none⟩) m (ys.set k { y with profit := n }) := by
  have he : Yr.cells { y with profit := n } = (Yr.cells y).set 2 (.int .i64 n) := rfl
  exact rec_store h hb k 2 y _ hy (by decide) _ he
theorem errOf_set {a : Ac} {ys : List Yr} (h : errOf a ys = 0) (k : Nat) (y : Yr) (hk : ys[k]? = some y) (n : Int) (h0 : -1099511627776 ≤ n) (h1 : n ≤ 1099511627776) : errOf a (ys.set k { y with profit := n }) = 0 := by
  obtain ⟨ha, hl, hys⟩ := errOf_zero h
  have hok := a.okB_iff.2 ha
  unfold errOf
  rw [if_pos hok, List.length_set, if_neg (by omega), if_neg]
  intro hb
  obtain ⟨z, hz, hbz⟩ := List.any_eq_true.1 hb
  have hy := hys y (List.mem_of_getElem? hk)
  have hzo : YrOk z := by
    rcases List.mem_or_eq_of_mem_set hz with h | h
    · exact hys z h
    · subst h; exact ⟨hy.p0, hy.p1, hy.c0, hy.c1, h0, h1⟩
  have := (badB_iff z).2 hzo
  rw [this] at hbz
  cases hbz

set_option maxHeartbeats 4000000 in
theorem with_any (a : Ac) (b4 b5 b11 : Nat) (A : Option Addr) (c : Nat) (ys : List Yr) (k : Nat) (n : Int) (y : Yr) (w : World) (h4 : w.heap[b4]? = some (.cells #[(Value.int .i64 a.a0), (Value.int .i64 a.a1), (Value.int .i64 a.a2), (Value.int .i64 a.a3), (Value.int .i64 a.a4), (Value.int .i64 a.a5)] 23 (0, 0))) (h5 : w.heap[b5]? = some (.cells #[.slice A ys.length c] 24 (0, 0)))
    (h11 : w.heap[b11]? = some (.cells #[.int .i64 k] 3 (0, 0))) (hC : Kd.C kYr w A ys.length ys) (hc : ys.length ≤ c) (hy : ys[k]? = some y) (h0 : errOf a (ys.set k { y with profit := n }) = 0) (hl : ys.length ≤ 24) :
    Calls Try.prog 9 #[.int .i64 n, .pointer (some ⟨b5, 0, none⟩), .pointer (some ⟨b11, 0, none⟩), .pointer (some ⟨b4, 0, none⟩)] w fun e w' => ∃ PA pc, e = .returned (.tuple #[.slice PA ys.length pc, .bool true]) ∧
      Kd.C kPm w' PA ys.length (paysOf a st0 (ys.set k { y with profit := n })) ∧ ys.length ≤ pc ∧ Below w.heap.size w w' := by
  have hk : k < ys.length := (List.getElem?_eq_some_iff.1 hy).1
  have hsl : (ys.set k { y with profit := n }).length = ys.length := List.length_set
  have HR := fun w2 A2 c2 h hc2 => run_ok a A2 c2 (ys.set k { y with profit := n }) w2 h hc2 h0
  rw [hsl] at HR
  have HRR := Lib.hid HR
  clear HR
  have HY := Lib.hid hy
  have H0 := Lib.hid h0
  have HS := Lib.hid hsl
  clear hy h0 hsl
  have q0 := cell_of_row _ _ 0 _ _ _ h4; have q1 := cell_of_row _ _ 1 _ _ _ h4; have q2 := cell_of_row _ _ 2 _ _ _ h4; have q3 := cell_of_row _ _ 3 _ _ _ h4; have q4 := cell_of_row _ _ 4 _ _ _ h4; have q5 := cell_of_row _ _ 5 _ _ _ h4; have e5 := cell_of_row _ _ 0 _ _ _ h5; have e11 := cell_of_row _ _ 0 _ _ _ h11
  have l4 := bk_lt h4
  have l5 := bk_lt h5
  have hRE := R_empty kYr 34 w w.heap.size (Nat.le_refl _)
  have hBE : Below w.heap.size w (w.alloc (.cells #[] 34)) := (Below.refl _ _).alloc (Nat.le_refl _) _
  have hCE := Kd.C_below hC hBE
  have e5a := kcell hBE (show w.cell? ⟨b5, 0, none⟩ = some (.slice A ys.length c) from e5)
  go_enter Try.func9, Try.ntmps9
  go_wp2_with (first | (at_builtin; go_loud (refine Kd.R_append_rows kYr (w0 := w) w.heap.size rfl (.tmp 10) (.tmp 11) 24 34 (.agg #[(Value.int .i64 0), (Value.int .i64 0), (Value.int .i64 0)]) 24 rfl Try.underlying24 info34 rfl (by decide) (by decide) (.slice (some ⟨w.heap.size, 0, none⟩) 0 0) [] ys A ys.length c (fun _ => True) (fun _ => False) (by rfl) (by rfl) hRE hCE (fun _ _ h => h) (fun _ h => h.elim) (fun _ _ => trivial) hBE (by simp) (by simp; omega) ?_; intro v1 w1 hR1 hb1 _ _; rw [List.nil_append] at hR1; obtain ⟨g1, pc1, rfl, hg1, hg1', cs1, hcs1⟩ := Kd.R_form hR1 (by omega); obtain ⟨_, hpc1, hC1⟩ := Kd.R_reads' hR1; have hfr := fun q => free_of w1 g1 q _ _ hcs1; have h4 := kblk hb1 h4; have h5 := kblk hb1 h5; have h11 := kblk hb1 h11; have q0 := cell_of_row _ _ 0 _ _ _ h4; have q1 := cell_of_row _ _ 1 _ _ _ h4; have q2 := cell_of_row _ _ 2 _ _ _ h4; have q3 := cell_of_row _ _ 3 _ _ _ h4; have q4 := cell_of_row _ _ 4 _ _ _ h4; have q5 := cell_of_row _ _ 5 _ _ _ h4; have e5 := cell_of_row _ _ 0 _ _ _ h5; have e11 := cell_of_row _ _ 0 _ _ _ h11; have j4 := far_cells h4 g1 (k * 3 + 2) (.int .i64 n) (Nat.lt_of_lt_of_le l4 hg1); have j5 := far_cells h5 g1 (k * 3 + 2) (.int .i64 n) (Nat.lt_of_lt_of_le l5 hg1); have hC2 : Kd.C kYr (w1.setCell ⟨g1, k * 3 + 2, none⟩ (.int .i64 n)) (some ⟨g1, 0, none⟩) ys.length (ys.set k { y with profit := n }) := yr_store hC1 hcs1 k y n HY.out; have hb2 := hb1.setCell (p := ⟨g1, k * 3 + 2, none⟩) hg1 (.int .i64 n); have hold := yr_at hC1 k y HY.out; obtain ⟨p0, p1, p2, p3, p4, p5⟩ := far6 h4 g1 (k * 3 + 2) (.int .i64 n) (Nat.lt_of_lt_of_le l4 hg1))) | (go_at_call 6; go_loud (refine Calls.mono (HRR.out _ _ _ hC2 hpc1) ?_; rintro e w3 ⟨PA, pc, rfl, hP, hpc, hb3⟩; have j5 := kblk hb3 j5; have r5 := cell_of_row _ _ 0 _ _ _ j5)))
  go_region
  all_goals go_wp2
  all_goals go_ret2
  all_goals
    refine ⟨PA, pc, by simp, Kd.C_drew hP, hpc, ?_⟩
    exact (hb2.trans (hb3.mono hb2.size)).drew
end Go.Proofs.Ytahfmaocihlcnaa
