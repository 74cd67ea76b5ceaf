import Derived.Test.YtahfmaocihlcnaaS8
set_option linter.unusedVariables false
set_option linter.unusedSimpArgs false
namespace Go.Proofs.Ytahfmaocihlcnaa
open Go.RowKit Go.Shelf GW Go.Proofs.YtahfmaocihlcnaaW.PrintWords Go.Proofs.YtahfmaocihlcnaaW.PrintLast Go.Proofs.YtahfmaocihlcnaaW.PrintMore
attribute [local go_sem] max_ii min_ii Oper.semAt_some

theorem rec_take {α : Type} {n : Nat} {enc : α → List Value} {hn : ∀ x, (enc x).length = n} {h1 : ∀ x, ∀ u ∈ enc x, u.oneCell' = true} {w : World} {A : Option Addr} {m k : Nat} {xs : List α} (h : Kd.C (recK n enc hn h1) w A m xs) (hk : k ≤ m) : Kd.C (recK n enc hn h1) w A k (xs.take k) := by
  obtain ⟨hl, hm, hc⟩ := h
  refine ⟨by rw [List.length_take]; omega, by omega, fun h0 => ?_⟩
  obtain ⟨ad, e, hc⟩ := hc (by omega)
  refine ⟨ad, e, fun j p hp => hc j p ?_⟩
  rw [List.getElem?_take] at hp
  split at hp
  · exact hp
  · cases hp

/-- What Needed answers. -/
def needOf (a : Ac) (ys : List Yr) (k : Int) : Int × Int :=
  if errOf a ys = 0 then
    if 0 ≤ k ∧ k ≤ (ys.length : Int) - 1 then
      let s := stOf a st0 (ys.take k.toNat)
      let y := ys.getD k.toNat ⟨0, 0, 0⟩
      let owed := dueOf a.a0 a.a1 a.a2 a.a3 y.price y.cap + s.arr.sum
      if owed = 0 then (0, 4) else (owed - s.bal, 0)
    else (0, 2)
  else (0, errOf a ys)

set_option maxHeartbeats 2000000 in
theorem needed_any (a : Ac) (A : Option Addr) (c : Nat) (ys : List Yr) (k : Int) (w : World) (hC : Kd.C kYr w A ys.length ys) (hc : ys.length ≤ c) (hcm : c ≤ 9223372036854775807) :
    Calls Try.prog 11 #[a.v, .slice A ys.length c, .int .i64 k] w fun e w' =>
      e = .returned (.tuple #[.int .i64 (needOf a ys k).1, .int .i64 (needOf a ys k).2]) ∧ Below w.heap.size w w' := by
  obtain ⟨r1, hr1⟩ : ∃ r, r = (needOf a ys k).1 := ⟨_, rfl⟩
  obtain ⟨r2, hr2⟩ : ∃ r, r = (needOf a ys k).2 := ⟨_, rfl⟩
  rw [← hr1, ← hr2]
  have R1 := Lib.hid hr1
  have R2 := Lib.hid hr2
  clear hr1 hr2
  obtain ⟨E, hE⟩ : ∃ E, E = errOf a ys := ⟨_, rfl⟩
  have HA := Lib.hid (fun w h => errorOf_any a A c ys w h)
  rw [← hE] at HA
  have HE := Lib.hid hE
  clear hE
  refine callsIn_wide (n := 5).1 ?_
  refine callsIn_of_wp_marks Try.func11 rfl trivial ?_
  unfold Ac.v at *
  simp only [Try.ntmps11, List.size_toArray, List.length_cons, List.length_nil, Nat.reduceAdd, Nat.reduceSub, Array.replicate_succ, Array.replicate_zero, List.push_toArray, List.append_toArray, List.nil_append, List.cons_append]
  have hb0 : Below w.heap.size w (w.alloc (.cells #[.int .i64 a.a0, .int .i64 a.a1, .int .i64 a.a2, .int .i64 a.a3, .int .i64 a.a4, .int .i64 a.a5] 23)) := (Below.refl _ w).alloc (Nat.le_refl _) _
  have hA0 := bk_new w (.cells #[.int .i64 a.a0, .int .i64 a.a1, .int .i64 a.a2, .int .i64 a.a3, .int .i64 a.a4, .int .i64 a.a5] 23)
  by_cases h0 : E = 0
  · subst h0
    by_cases hk : 0 ≤ k ∧ k ≤ (ys.length : Int) - 1
    · obtain ⟨m, rfl⟩ : ∃ m : Nat, k = m := ⟨k.toNat, by omega⟩
      have hm : m < ys.length := by omega
      have hl := hC.2.1
      gi_wp2_with (first | (refine ⟨trivial, ?_⟩; gi_at_call 15; go_loud (refine (callsIn_wide.2 (HA.out _ (Kd.C_below hC hb0))).mono ?_; rintro e w1 ⟨rfl, hb1⟩; have hA1 := kblk hb1 hA0; have hA10 := cell_of_row _ _ 0 _ _ _ hA1; have hA11 := cell_of_row _ _ 1 _ _ _ hA1; have hA12 := cell_of_row _ _ 2 _ _ _ hA1; have hA13 := cell_of_row _ _ 3 _ _ _ hA1; have hA14 := cell_of_row _ _ 4 _ _ _ hA1; have hA15 := cell_of_row _ _ 5 _ _ _ hA1; have hlt1 := bk_lt hA1)) | (refine ⟨trivial, ?_⟩; gi_at_call 18; go_loud (refine (callsIn_wide.2 (within_any _ _ _ _)).mono ?_; rintro e w2 ⟨rfl, hw2⟩; have hw2 := hw2.symm; subst hw2)) | (refine ⟨trivial, ?_⟩; gi_at_call 16; go_loud (refine (callsIn_wide.2 (years_any _ _ _ _ _)).mono ?_; rintro e w2 ⟨rfl, rfl⟩)))
      obtain ⟨ha, hlen, hys⟩ := errOf_zero HE.out.symm
      have hbn := hb0.trans (hb1.mono hb0.size)
      have hCm := rec_take hC (k := m) (by omega)
      have hml : (ys.take m).length = m := by rw [List.length_take]; omega
      obtain ⟨y, hy⟩ : ∃ y, ys[m]? = some y := ⟨_, List.getElem?_eq_getElem hm⟩
      have hyd : ys.getD m ⟨0, 0, 0⟩ = y := by rw [List.getD_eq_getElem?_getD, hy]; rfl
      have Hyd := Lib.hid hyd
      clear hyd
      have hyo := hys y (List.mem_of_getElem? hy)
      generalize hLdef : (((w1.alloc (.cells #[.int .i64 a.a0, .int .i64 a.a1, .int .i64 a.a2, .int .i64 a.a3, .int .i64 a.a4, .int .i64 a.a5, .int .i64 0, .slice none 0 0] 54)).alloc (.cells #[.pointer (some ⟨w1.heap.size, 0, none⟩)] 51)).alloc (.cells #[.slice A m c] 24)) = WL
      have hLs : WL.heap.size = w1.heap.size + 3 := by rw [← hLdef]; simp
      have hLB : Below w1.heap.size w1 WL := by rw [← hLdef]; exact ((((Below.refl _ w1).alloc (Nat.le_refl _) _).alloc (by simp) _).alloc (by simp; omega) _)
      have hLn : Below w.heap.size w WL := hbn.trans (hLB.mono (by omega))
      have hLg : WL.heap[w1.heap.size]? = some (.cells #[.int .i64 a.a0, .int .i64 a.a1, .int .i64 a.a2, .int .i64 a.a3, .int .i64 a.a4, .int .i64 a.a5, .int .i64 0, .slice none 0 0] 54 (0, 0)) := by rw [← hLdef]; exact bk_alloc (bk_alloc (bk_new _ _) _) _
      have hLc : WL.heap[w1.heap.size + 1]? = some (.cells #[.pointer (some ⟨w1.heap.size, 0, none⟩)] 51 (0, 0)) := by
        rw [← hLdef]; have := bk_new (w1.alloc (.cells #[.int .i64 a.a0, .int .i64 a.a1, .int .i64 a.a2, .int .i64 a.a3, .int .i64 a.a4, .int .i64 a.a5, .int .i64 0, .slice none 0 0] 54)) (.cells #[.pointer (some ⟨w1.heap.size, 0, none⟩)] 51)
        rw [World.size_alloc] at this; exact bk_alloc this _
      have hLl : WL.heap[w1.heap.size + 1 + 1]? = some (.cells #[.slice A m c] 24 (0, 0)) := by
        rw [← hLdef]; have := bk_new ((w1.alloc (.cells #[.int .i64 a.a0, .int .i64 a.a1, .int .i64 a.a2, .int .i64 a.a3, .int .i64 a.a4, .int .i64 a.a5, .int .i64 0, .slice none 0 0] 54)).alloc (.cells #[.pointer (some ⟨w1.heap.size, 0, none⟩)] 51)) (.cells #[.slice A m c] 24)
        rw [World.size_alloc, World.size_alloc] at this; exact this
      have hpre : YPre a w1.heap.size (w1.heap.size + 1) (w1.heap.size + 1 + 1) w.heap.size w A (ys.take m).length c st0 WL :=
        ⟨hLc, by rw [hml]; exact hLl, ⟨none, 0, hLg, Nat.le_refl _, by decide, ⟨rfl, by simp [st0], fun h => by simp [st0] at h⟩, fun ad e => by cases e⟩, fun b hb => hLn.block b hb, hLn.size⟩
      clear hLdef hLc hLl hLg hb0 HA hA0 hA1 hA10 hA11 hA12 hA13 hA14 hA15
      have hit := years1_it a ha w1.heap.size (w1.heap.size + 1) (w1.heap.size + 1 + 1) w.heap.size w A c (ys.take m) (fun z hz => hys z (List.mem_of_mem_take hz)) (by omega) 4 rfl (by omega) (by omega) (by omega) (by rw [hml]; exact hCm)
      refine name_act fun a0 hA0 => ?_
      refine wpIn_rangeG rfl (by decide) (gf := 27) (lb := #[.pointer (some ⟨w1.heap.size + 1, 0, none⟩), .pointer (some ⟨w1.heap.size + 1 + 1, 0, none⟩)]) (by subst hA0; rfl) trivial (enters_of Try.func27 (by kernel_rfl) rfl)
        hit (by omega) (by omega) (fun _ => rfl) (fun o o' => (hpre.alloc o).alloc o') ?post
        (fun _ W => Below w.heap.size w W ∧ w1.heap.size < W.heap.size) (fun _ _ _ => False) (fun _ _ _ => True)
        ?own (fun _ _ _ _ _ h _ _ => h) (fun _ _ _ _ _ h _ _ => h) ⟨hLn, by omega⟩ ?assign ?body ?done (fun D c k W _ _ h _ => h.elim)
      case post =>
        intro W l o o' hl ho hc hco
        exact hco.keeps (n0 := 0) (keepsT_put o' (Nat.zero_le _) ho hc)
      case own =>
        rintro k W W' row ⟨hB, hs⟩ hg hr
        exact ⟨ownG_below (β := Unit) (Nat.le_refl _) (by omega) (by omega) () W W' row hB hg hr, Nat.lt_of_lt_of_le hs hg.size⟩
      case assign =>
        rintro l k W K ⟨hB, hs⟩ hk hK
        gi_wp2
        exact hK _ _ (KeepsOthers.refl _) (KeepsT.refl _ _ _) ⟨hB, hs⟩ trivial
      case body =>
        rintro l k a' W ⟨hB, hs⟩ _ hk
        obtain ⟨ts, ds⟩ := a'
        gi_wp2
        exact ⟨KeepsOthers.refl _, KeepsT.refl _ _ _, hB, hs⟩
      case done =>
        rintro D W hD ⟨hB, hs⟩ hco hK
        have hst := stOk_of ha (ys.take m) 0 st0 (stOk_0 a) (fun z hz => hys z (List.mem_of_mem_take hz))
        rw [Nat.zero_add, hml] at hst
        have hlo := hst.lo
        have hhi := hst.hi
        have hss := hst.arr.sum
        have hdd := due_ok ha hyo
        obtain ⟨A', c', hg', hlc, hcm', hC', hty⟩ := hco
        obtain ⟨ad, hAd, c0, c1, c2⟩ := yr_get (rec_same hC (fun b hb => hB.block b hb)) m y hy
        subst hAd
        generalize hsd : stOf a st0 (ys.take m) = s at *
        generalize hdu : dueOf a.a0 a.a1 a.a2 a.a3 y.price y.cap = du at *
        have Hdu := Lib.hid hdu
        clear hdu
        subst hA0
        obtain ⟨bal, arr⟩ := s
        have Hs := Lib.hid hsd
        clear hsd
        have hneed : needOf a ys m = if du + arr.sum = 0 then (0, 4) else (du + arr.sum - bal, 0) := by
          unfold needOf
          rw [if_pos HE.out.symm, if_pos hk]
          simp only [Int.toNat_natCast, Hyd.out, Hdu.out, Hs.out]
        rw [hneed] at R1 R2
        by_cases hz : du + arr.sum = 0
        · rw [if_pos hz] at R1 R2
          gi_wp2_with (first | (refine ⟨trivial, ?_⟩; gi_at_call 19; go_loud (refine (callsIn_wide.2 (due_any ha _ _ y.price y.cap y.profit _ _ hg' hyo.p0 hyo.p1 hyo.c0 hyo.c1)).mono ?_; rintro e w3 ⟨rfl, hb3⟩; rw [Hdu.out]; have hg3 := kblk hb3 hg'; have hg6 := cell_of_row _ _ 6 _ _ _ hg3)) | (refine ⟨trivial, ?_⟩; gi_at_call 20; go_loud (refine (callsIn_wide.2 (owed_any _ _ _ _ _ (cell_of_row _ _ 7 _ _ _ hg3) hst.arr (kCi hb3 hC'))).mono ?_; rintro e w4 ⟨rfl, rfl⟩)))
          refine ⟨by simp, .inl ⟨_, _, rfl, run_takeDeferred (kblk hb3 hK), ?_⟩⟩
          exact ⟨_, results_tmp2 rfl _ _ _, by rw [R1.out, R2.out]; rfl, (hB.trans (hb3.mono hB.size)).trans (belowK_b (w := w) (Nat.le_refl _) _ D _ _ (by omega) (kblk hb3 hK) rfl rfl)⟩
        · rw [if_neg hz] at R1 R2
          gi_wp2_with (first | (refine ⟨trivial, ?_⟩; gi_at_call 19; go_loud (refine (callsIn_wide.2 (due_any ha _ _ y.price y.cap y.profit _ _ hg' hyo.p0 hyo.p1 hyo.c0 hyo.c1)).mono ?_; rintro e w3 ⟨rfl, hb3⟩; rw [Hdu.out]; have hg3 := kblk hb3 hg'; have hg6 := cell_of_row _ _ 6 _ _ _ hg3)) | (refine ⟨trivial, ?_⟩; gi_at_call 20; go_loud (refine (callsIn_wide.2 (owed_any _ _ _ _ _ (cell_of_row _ _ 7 _ _ _ hg3) hst.arr (kCi hb3 hC'))).mono ?_; rintro e w4 ⟨rfl, rfl⟩)))
          refine ⟨by simp, .inl ⟨_, _, rfl, run_takeDeferred (kblk hb3 hK), ?_⟩⟩
          exact ⟨_, results_tmp2 rfl _ _ _, by rw [R1.out, R2.out]; rfl, (hB.trans (hb3.mono hB.size)).trans (belowK_b (w := w) (Nat.le_refl _) _ D _ _ (by omega) (kblk hb3 hK) rfl rfl)⟩
    · have hl := hC.2.1
      have hneed : needOf a ys k = (0, 2) := by
        unfold needOf
        rw [if_pos HE.out.symm, if_neg hk]
      rw [hneed] at R1 R2
      gi_wp2_with (first | (refine ⟨trivial, ?_⟩; gi_at_call 15; go_loud (refine (callsIn_wide.2 (HA.out _ (Kd.C_below hC hb0))).mono ?_; rintro e w1 ⟨rfl, hb1⟩; have hA1 := kblk hb1 hA0; have hA10 := cell_of_row _ _ 0 _ _ _ hA1; have hA11 := cell_of_row _ _ 1 _ _ _ hA1; have hA12 := cell_of_row _ _ 2 _ _ _ hA1; have hA13 := cell_of_row _ _ 3 _ _ _ hA1; have hA14 := cell_of_row _ _ 4 _ _ _ hA1; have hA15 := cell_of_row _ _ 5 _ _ _ hA1; have hlt1 := bk_lt hA1)) | (refine ⟨trivial, ?_⟩; gi_at_call 18; go_loud (refine (callsIn_wide.2 (within_any _ _ _ _)).mono ?_; rintro e w2 ⟨rfl, hw2⟩; have hw2 := hw2.symm; subst hw2)) | (refine ⟨trivial, ?_⟩; gi_at_call 16; go_loud (refine (callsIn_wide.2 (years_any _ _ _ _ _)).mono ?_; rintro e w2 ⟨rfl, rfl⟩)))
      exact ⟨_, results_tmp2 rfl _ _ _, by rw [R1.out, R2.out]; rfl, hb0.trans (hb1.mono hb0.size)⟩
  · have hneed : needOf a ys k = (0, E) := by
      unfold needOf
      rw [← HE.out, if_neg h0]
    rw [hneed] at R1 R2
    gi_wp2_with (first | (refine ⟨trivial, ?_⟩; gi_at_call 15; go_loud (refine (callsIn_wide.2 (HA.out _ (Kd.C_below hC hb0))).mono ?_; rintro e w1 ⟨rfl, hb1⟩; have hA1 := kblk hb1 hA0; have hA10 := cell_of_row _ _ 0 _ _ _ hA1; have hA11 := cell_of_row _ _ 1 _ _ _ hA1; have hA12 := cell_of_row _ _ 2 _ _ _ hA1; have hA13 := cell_of_row _ _ 3 _ _ _ hA1; have hA14 := cell_of_row _ _ 4 _ _ _ hA1; have hA15 := cell_of_row _ _ 5 _ _ _ hA1; have hlt1 := bk_lt hA1)) | (refine ⟨trivial, ?_⟩; gi_at_call 18; go_loud (refine (callsIn_wide.2 (within_any _ _ _ _)).mono ?_; rintro e w2 ⟨rfl, hw2⟩; have hw2 := hw2.symm; subst hw2)) | (refine ⟨trivial, ?_⟩; gi_at_call 16; go_loud (refine (callsIn_wide.2 (years_any _ _ _ _ _)).mono ?_; rintro e w2 ⟨rfl, rfl⟩)))
    exact ⟨_, results_tmp2 rfl _ _ _, by rw [R1.out, R2.out]; rfl, hb0.trans (hb1.mono hb0.size)⟩
end Go.Proofs.Ytahfmaocihlcnaa
