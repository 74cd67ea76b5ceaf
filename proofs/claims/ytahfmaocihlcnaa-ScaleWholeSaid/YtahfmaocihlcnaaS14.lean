import Derived.Test.YtahfmaocihlcnaaS13
set_option linter.unusedVariables false
set_option linter.unusedSimpArgs false
namespace Go.Proofs.Ytahfmaocihlcnaa
open Go.RowKit Go.Shelf GW Go.Proofs.YtahfmaocihlcnaaW.PrintWords Go.Proofs.YtahfmaocihlcnaaW.PrintLast Go.Proofs.YtahfmaocihlcnaaW.PrintMore
attribute [local go_sem] max_ii min_ii

theorem flat_get {α : Type} {n : Nat} {enc : α → List Value} (hn : ∀ x, (enc x).length = n) : ∀ (xs : List α) (j : Nat) (x : α) (i : Nat) (u : Value), xs[j]? = some x → (enc x)[i]? = some u → (xs.flatMap enc)[j * n + i]? = some u := by
  intro xs
  induction xs with
  | nil => intro j x i u h; simp at h
  | cons y xs ih =>
    intro j x i u h hu
    have hi : i < n := by rw [← hn x]; exact (List.getElem?_eq_some_iff.1 hu).1
    cases j with
    | zero =>
      simp at h
      subst h
      rw [List.flatMap_cons, Nat.zero_mul, Nat.zero_add, List.getElem?_append_left (by rw [hn]; exact hi)]
      exact hu
    | succ j =>
      simp at h
      rw [List.flatMap_cons, List.getElem?_append_right (by rw [hn, Nat.succ_mul]; omega), hn, show (j + 1) * n + i - n = j * n + i by rw [Nat.succ_mul]; omega]
      exact ih j x i u h hu
/-- A block that was written whole is a row. -/
theorem rec_blk {α : Type} {n : Nat} {enc : α → List Value} {hn : ∀ x, (enc x).length = n} {h1 : ∀ x, ∀ u ∈ enc x, u.oneCell' = true} {w : World} {b : Nat} {t : TypeId} {fr : Nat × Nat} (xs : List α) (hm : xs.length ≤ 9223372036854775807)
    (h : w.heap[b]? = some (.cells (xs.flatMap enc).toArray t fr)) : Kd.C (recK n enc hn h1) w (some ⟨b, 0, none⟩) xs.length xs := by
  refine ⟨rfl, hm, fun _ => ⟨_, rfl, fun j p hp => ⟨enc p, hn p, rfl, fun i u hu => ?_⟩⟩⟩
  have := flat_get hn xs j p i u hp hu
  have hc := cell_of_row w b (j * n + i) _ _ _ h
  rw [List.getElem?_toArray, this] at hc
  rw [← hc]
  congr 1
  unfold Addr.add
  split
  · rename_i h0; simp [recK] at h0 ⊢; omega
  · simp [recK]

def saAct : Ac := ⟨48, 1000, 4, 25, 500, 1⟩
def saYrs : List Yr := [⟨44, 10000, 900⟩, ⟨48, 10000, 1300⟩, ⟨40, 8000, 1500⟩, ⟨53, 8000, -600⟩, ⟨53, 8000, 100⟩]
def saPms : List Pm := [⟨1025, 1025, 900, 125, 0, 0⟩, ⟨1000, 1000, 1125, 0, 175, 0⟩, ⟨1050, 840, 840, 0, 500, 335⟩, ⟨950, 760, 0, 760, -100, 0⟩, ⟨950, 760, 0, 760, 0, 0⟩]
theorem sa_run : paysOf saAct st0 saYrs = saPms := by decide
theorem sa_err : errOf saAct saYrs = 0 := by decide
theorem sa_need : needOf saAct saYrs 4 = (1620, 0) := by decide
theorem sa_ok : saAct.ok := saAct.okB_iff.1 (by decide)
theorem sa_r1 : rateAns saAct 45 = (1000, 0) := by decide
theorem sa_r2 : rateAns saAct 53 = (950, 0) := by decide
theorem sa_dear {n : Int} (h0 : 0 ≤ n) (h1 : n ≤ 100001) (hlo : n = 0 ∨ ¬ saAct.rate (n - 1) < 950) (hhi : n = 100001 ∨ saAct.rate n < 950) : n = 57 := by
  have e1 : saAct.rate 56 = 950 := by decide
  have e2 : saAct.rate 57 = 925 := by decide
  have m1 : n ≤ 56 → saAct.rate 56 ≤ saAct.rate n := fun h => rate_anti sa_ok h
  have m2 : 57 ≤ n - 1 → saAct.rate (n - 1) ≤ saAct.rate 57 := fun h => rate_anti sa_ok h
  omega

set_option maxHeartbeats 8000000 in
theorem sample_any (w : World) : Calls Try.prog 12 #[] w fun e w' => ∃ b1 b2, e = .returned (.tuple #[saAct.v, .slice (some ⟨b1, 0, none⟩) 5 5, .slice (some ⟨b2, 0, none⟩) 5 5]) ∧
    Kd.C kYr w' (some ⟨b1, 0, none⟩) saYrs.length saYrs ∧ Kd.C kPm w' (some ⟨b2, 0, none⟩) saPms.length saPms ∧ Below w.heap.size w w' := by
  go_enter Try.func12, Try.ntmps12
  go_wp2
  have z0 := bk_new w (.cells #[.int .i64 48, .int .i64 1000, .int .i64 4, .int .i64 25, .int .i64 500, .int .i64 1] 23)
  have z1 := bk_new (w.alloc (.cells #[.int .i64 48, .int .i64 1000, .int .i64 4, .int .i64 25, .int .i64 500, .int .i64 1] 23)) (.cells (saYrs.flatMap Yr.cells).toArray 34)
  have z2 := bk_new ((w.alloc (.cells #[.int .i64 48, .int .i64 1000, .int .i64 4, .int .i64 25, .int .i64 500, .int .i64 1] 23)).alloc (.cells (saYrs.flatMap Yr.cells).toArray 34)) (.cells (saPms.flatMap Pm.cells).toArray 32)
  have z0 := bk_alloc (bk_alloc z0 (.cells (saYrs.flatMap Yr.cells).toArray 34)) (.cells (saPms.flatMap Pm.cells).toArray 32)
  have z1 := bk_alloc z1 (.cells (saPms.flatMap Pm.cells).toArray 32)
  rw [World.size_alloc] at z1
  rw [World.size_alloc, World.size_alloc] at z2
  refine bodyPost_ret (results_ctt rfl _ _ w.heap.size 23 _ _ _ rfl z0 Try.underlying23 rfl (by kernel_rfl)) rfl ?_
  exact ⟨_, _, rfl, rec_blk saYrs (by decide) z1, rec_blk saPms (by decide) z2, (((Below.refl _ w).alloc (Nat.le_refl _) _).alloc (by simp) _).alloc (by simp; omega) _⟩
end Go.Proofs.Ytahfmaocihlcnaa
