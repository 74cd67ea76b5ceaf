/- The walk of ScaleMore, where Run answers. -/
import Derived.Outline
import Derived.Test.YtahfmaocihlcnaaS22
set_option linter.unusedVariables false
set_option linter.unusedSimpArgs false
namespace Go.Proofs.Ytahfmaocihlcnaa
open Go.RowKit Go.Shelf GW Go.Proofs.YtahfmaocihlcnaaW.PrintWords Go.Proofs.YtahfmaocihlcnaaW.PrintLast Go.Proofs.YtahfmaocihlcnaaW.PrintMore
attribute [local go_sem] max_ii min_ii
attribute [local go_sem high] eq32

theorem pay_yes (A B : Option Addr) (c d n : Nat) (xs : List Pm) (w : World) (hx : Kd.C kPm w A n xs) (hy : Kd.C kPm w B n xs) :
    Calls Try.prog 10 #[.slice A n c, .slice B n d] w fun e w' => e = .returned (.bool true) ∧ Below w.heap.size w w' := by
  have hn := hx.1
  subst hn
  have := payments_any A B c d xs xs w hx hy
  rw [decide_eq_true (rfl : xs = xs)] at this
  exact this
set_option maxRecDepth 100000 in
set_option maxHeartbeats 40000000 in
theorem more_ok (a : Ac) (A : Option Addr) (c : Nat) (ys : List Yr) (wh by' : Int) (w : World) (hw0 : 0 ≤ wh) (hw1 : wh ≤ 255) (hb0 : 0 ≤ by') (hb1 : by' ≤ 4294967295) (hC : Kd.C kYr w A ys.length ys) (hc : ys.length ≤ c) (hcm : c ≤ 9223372036854775807) (hl : ys.length ≤ 24) (hl0 : 0 < ys.length) (h0 : errOf a ys = 0) :
    Calls Try.prog 4 #[.agg #[(Value.int .i64 a.a0), (Value.int .i64 a.a1), (Value.int .i64 a.a2), (Value.int .i64 a.a3), (Value.int .i64 a.a4), (Value.int .i64 a.a5)], .slice A ys.length c, .int .u8 wh, .int .u32 by'] w fun e w' => e = .returned (.bool true) ∧ Below w.heap.size w w' := by
  obtain ⟨ha, hlen, hys⟩ := errOf_zero h0
  obtain ⟨k, hk⟩ : ∃ k : Nat, wh % (ys.length : Int) = k := ⟨(wh % (ys.length : Int)).toNat, by have := Int.emod_nonneg wh (show (ys.length : Int) ≠ 0 by omega); omega⟩
  have hkl : k < ys.length := by have := Int.emod_lt_of_pos wh (show (0 : Int) < ys.length by omega); omega
  obtain ⟨y, hy⟩ : ∃ y, ys[k]? = some y := ⟨_, List.getElem?_eq_getElem hkl⟩
  obtain ⟨bd, hbd, _⟩ := rec_get hC k y hy
  subst hbd
  have hyo := hys y (List.mem_of_getElem? hy)
  have hpl := paysOf_length a ys st0
  obtain ⟨N, hN⟩ : ∃ N, min 1099511627776 (y.profit + by') = N := ⟨_, rfl⟩
  have f0 := hyo.f0
  have f1 := hyo.f1
  have hN0 : y.profit ≤ N := by omega
  have hN1 : N ≤ 1099511627776 := by omega
  have hE1 := errOf_set h0 k y hy N (by omega) hN1
  obtain ⟨ml1, ml2⟩ := more_law ha (l := ys) hys hy (y' := { y with profit := N }) rfl rfl hN0
  have hql : (paysOf a st0 (ys.set k { y with profit := N })).length = ys.length := by rw [paysOf_length, List.length_set]
  obtain ⟨X, hX⟩ : ∃ X, X = (w.alloc (.cells #[(Value.int .i64 a.a0), (Value.int .i64 a.a1), (Value.int .i64 a.a2), (Value.int .i64 a.a3), (Value.int .i64 a.a4), (Value.int .i64 a.a5)] 23)).alloc (.cells #[.slice (some bd) ys.length c] 24) := ⟨_, rfl⟩
  have hbX : Below w.heap.size w X := by rw [hX]; exact ((Below.refl _ w).alloc (Nat.le_refl _) _).alloc (by simp) _
  have h4 : X.heap[w.heap.size]? = some (.cells #[(Value.int .i64 a.a0), (Value.int .i64 a.a1), (Value.int .i64 a.a2), (Value.int .i64 a.a3), (Value.int .i64 a.a4), (Value.int .i64 a.a5)] 23 (0, 0)) := by rw [hX]; exact bk_alloc (bk_new _ _) _
  have h5 : X.heap[w.heap.size + 1]? = some (.cells #[.slice (some bd) ys.length c] 24 (0, 0)) := by
    have := bk_new (w.alloc (.cells #[(Value.int .i64 a.a0), (Value.int .i64 a.a1), (Value.int .i64 a.a2), (Value.int .i64 a.a3), (Value.int .i64 a.a4), (Value.int .i64 a.a5)] 23)) (.cells #[.slice (some bd) ys.length c] 24)
    rw [World.size_alloc] at this
    rw [hX]; exact this
  have hCX : Kd.C kYr X (some bd) ys.length ys := Kd.C_below hC hbX
  have HR := Lib.hid (run_ok a (some bd) c ys X hCX hc h0)
  have HX := hX.symm
  have H0 := Lib.hid h0
  have Ha := Lib.hid ha
  have Hys := Lib.hid hys
  have HY := Lib.hid hy
  have HK := Lib.hid hk
  have HE1 := Lib.hid hE1
  have M1 := Lib.hid ml1
  have M2 := Lib.hid ml2
  clear h0 ha hys hy hE1 ml1 ml2 hX hC
  generalize hps : paysOf a st0 ys = ps at *
  generalize hqs : paysOf a st0 (ys.set k { y with profit := N }) = qs at *
  have Hps := Lib.hid hps
  have Hqs := Lib.hid hqs
  clear hps hqs
  have h2 : ((ys.length : Int) == 0) = false := by rw [beq_eq_false_iff_ne]; omega
  have tw : wh.tmod (ys.length : Int) = k := by rw [Int.tmod_eq_emod_of_nonneg hw0]; exact hk
  have c0 := cell_of_row _ _ 0 _ _ _ h4; have c1 := cell_of_row _ _ 1 _ _ _ h4; have c2 := cell_of_row _ _ 2 _ _ _ h4; have c3 := cell_of_row _ _ 3 _ _ _ h4; have c4 := cell_of_row _ _ 4 _ _ _ h4; have c5 := cell_of_row _ _ 5 _ _ _ h4; have e5 := cell_of_row _ _ 0 _ _ _ h5
  go_enter Try.func4, Try.ntmps4
  go_wp2_with (first | (go_at_call 6; go_loud (refine HR.out.mono ?_; rintro e w1 ⟨PA, pc, rfl, hP, hpc, hb1⟩; have h4 := kblk hb1 h4; have h5 := kblk hb1 h5; have hC1 := Kd.C_below hCX hb1; have hbw := hbX.trans (hb1.mono hbX.size); have c0 := cell_of_row _ _ 0 _ _ _ h4; have c1 := cell_of_row _ _ 1 _ _ _ h4; have c2 := cell_of_row _ _ 2 _ _ _ h4; have c3 := cell_of_row _ _ 3 _ _ _ h4; have c4 := cell_of_row _ _ 4 _ _ _ h4; have c5 := cell_of_row _ _ 5 _ _ _ h4; have e5 := cell_of_row _ _ 0 _ _ _ h5; have hBa : Below w1.heap.size w1 (w1.alloc (.cells #[.int .i64 k] 3)) := (Below.refl _ _).alloc (Nat.le_refl _) _; have h4a := kblk hBa h4; have h5a := kblk hBa h5; have h11a := bk_new w1 (.cells #[.int .i64 k] 3); have hCa := Kd.C_below hC1 hBa; have hPa := Kd.C_below hP hBa; have hba := hbw.trans (hBa.mono hbw.size); have m5 := cell_of_row _ _ 0 _ _ _ h5a; have m11 := cell_of_row _ _ 0 _ _ _ h11a; obtain ⟨bd', hbd', z0, z1, z2⟩ := yr_get hCa k y HY.out; cases hbd')) | (go_at_call 9; go_loud (refine Calls.mono (with_any a w.heap.size (w.heap.size + 1) w1.heap.size (some bd) c ys k N y _ h4a h5a h11a hCa hc HY.out HE1.out hl) ?_; rintro e w2 ⟨QA, qc, rfl, hQ, hqc, hbn⟩; rw [Hqs.out] at hQ; have h4 := h4a; have h5 := h5a; have h11 := h11a; have hC := hCa; have hP := hPa; have hb := hba; have h4 := kblk hbn h4; have h5 := kblk hbn h5; have h11 := kblk hbn h11; have hC := Kd.C_below hC hbn; have hP := Kd.C_below hP hbn; have hb := hb.trans (hbn.mono hb.size); have c0 := cell_of_row _ _ 0 _ _ _ h4; have c1 := cell_of_row _ _ 1 _ _ _ h4; have c2 := cell_of_row _ _ 2 _ _ _ h4; have c3 := cell_of_row _ _ 3 _ _ _ h4; have c4 := cell_of_row _ _ 4 _ _ _ h4; have c5 := cell_of_row _ _ 5 _ _ _ h4; have e5 := cell_of_row _ _ 0 _ _ _ h5; have e11 := cell_of_row _ _ 0 _ _ _ h11)))
  obtain ⟨p, hp, ow1, ow2, ow3, ow4⟩ := owed_law (a := a) HY.out
  rw [Hps.out] at hp ow4
  obtain ⟨q, hq⟩ : ∃ q, qs[k]? = some q := ⟨_, List.getElem?_eq_getElem (by omega)⟩
  obtain ⟨pa, hpa, p0, p1, p2, p3, p4, p5⟩ := pm_get hP k p hp
  obtain ⟨qa, hqa, q0, q1, q2, q3, q4, q5⟩ := pm_get hQ k q hq
  subst hpa hqa
  have mm := M1.out p q hp hq
  have d1 : decide (q.paid < p.paid) = false := by simpa using mm.1
  have d2 : decide (q.rebate < p.rebate) = false := by simpa using mm.2
  have HP := Lib.hid hp
  have HQ := Lib.hid hq
  have OW1 := Lib.hid ow1
  have OW2 := Lib.hid ow2
  have OW3 := Lib.hid ow3
  have OW4 := Lib.hid ow4
  clear hp hq ow1 ow2 ow3 ow4 mm
  go_quiet (fail)
  go_wp2
  have hbw2 := hb
  go_loopw [102] (fun i wr => ∃ J : Nat, J ≤ ys.length ∧ i = .int .i64 J ∧ Below w2.heap.size w2 wr) (fun i _ => ys.length - (intOf i).toNat)
  case atStart => exact ⟨0, Nat.zero_le _, rfl, (by first | exact below_drewN (Below.refl _ _) _ | exact (Below.refl _ _).drew | exact Below.refl _ _)⟩
  case round =>
    obtain ⟨J, hJ, rfl, hB⟩ := hrel
    have h11 := kblk hB h11
    have e11 := cell_of_row _ _ 0 _ _ _ h11
    by_cases hJl : J < ys.length
    · obtain ⟨x, hx⟩ : ∃ x, ps[J]? = some x := ⟨_, List.getElem?_eq_getElem (by omega)⟩
      obtain ⟨z, hz⟩ : ∃ z, qs[J]? = some z := ⟨_, List.getElem?_eq_getElem (by omega)⟩
      obtain ⟨pa', hpa', x0, x1, x2, x3, x4, x5⟩ := pm_get (Kd.C_below hP hB) J x hx
      obtain ⟨qa', hqa', t0, t1, t2, t3, t4, t5⟩ := pm_get (Kd.C_below hQ hB) J z hz
      cases hpa'
      cases hqa'
      obtain ⟨n1, n2, n3, n4⟩ := M2.out J x z hx hz
      have d3 : decide (z.reserve < x.reserve) = false := by simpa using n2
      have d4 : decide (x.arrears < z.arrears) = false := by simpa using n3
      have d5 : (z.due != x.due) = false := by simp [n4]
      have d5a : z.due ≤ x.due := by omega
      have d5b : x.due ≤ z.due := by omega
      clear hx hz n4
      by_cases hJk : J < k
      · have hzx := n1 hJk
        subst hzx
        have d6 : decide ((J : Int) < k) = true := by simpa using hJk
        clear n1 n2 n3 d5a d5b
        go_wp2
        go_quiet (fail)
        go_wp2
        go_roundw
        case rel => exact ⟨J + 1, by omega, by go_num, (by first | exact below_drewN hB _ | exact hB.drew | exact hB)⟩
        case measure => simp [intOf]; omega
      · have d6 : decide ((J : Int) < k) = false := by simpa using Nat.le_of_not_lt hJk
        clear n1
        go_wp2
        go_quiet (fail)
        go_wp2
        go_roundw
        case rel => exact ⟨J + 1, by omega, by go_num, (by first | exact below_drewN hB _ | exact hB.drew | exact hB)⟩
        case measure => simp [intOf]; omega
    · obtain rfl : J = ys.length := by omega
      go_wp2
      have h4 := kblk hB h4
      have h5 := kblk hB h5
      have hC := Kd.C_below hC hB
      have hP := Kd.C_below hP hB
      have hb := hbw2.trans (hB.mono hbw2.size)
      have c0 := cell_of_row _ _ 0 _ _ _ h4; have c1 := cell_of_row _ _ 1 _ _ _ h4; have c2 := cell_of_row _ _ 2 _ _ _ h4; have c3 := cell_of_row _ _ 3 _ _ _ h4; have c4 := cell_of_row _ _ 4 _ _ _ h4; have c5 := cell_of_row _ _ 5 _ _ _ h4; have e5 := cell_of_row _ _ 0 _ _ _ h5
      clear hbw2 hB
      have hk1 : (0 : Int) ≤ (k : Int) + 1 := by omega
      have hk2 : (k : Int) + 1 ≤ (c : Int) := by omega
      have hk2' : (k : Int) + 1 ≤ (pc : Int) := by omega
      have hk3 : ((k : Int) + 1).toNat = k + 1 := by omega
      have hk4 : IntKind.i64.wrap ((k : Int) + 1) = (k : Int) + 1 := IntWalk.i64_in _ (by omega)
      have hks : (ys.take (k + 1)).length = k + 1 := by rw [List.length_take]; omega
      have HF : ∀ W, Kd.C kYr W (some bd) ys.length ys → Calls Try.prog 6 #[.agg #[(Value.int .i64 a.a0), (Value.int .i64 a.a1), (Value.int .i64 a.a2), (Value.int .i64 a.a3), (Value.int .i64 a.a4), (Value.int .i64 a.a5)], .slice (some bd) (k + 1) c] W fun e w' => ∃ FA fc, e = .returned (.tuple #[.slice FA (k + 1) fc, .int .i64 0]) ∧ Kd.C kPm w' FA (k + 1) (ps.take (k + 1)) ∧ Below W.heap.size W w' := fun W hW => by
        have h := run_ok a (some bd) c (ys.take (k + 1)) W (by rw [hks]; exact rec_take hW (by omega)) (by omega) (errOf_take H0.out _)
        rw [hks, ← paysOf_take, Hps.out] at h
        refine Calls.mono h ?_
        rintro e w' ⟨FA, fc, rfl, h1, _, h2⟩
        exact ⟨FA, fc, rfl, h1, h2⟩
      have HF := Lib.hid HF
      clear hks
      have HCF := Lib.hid (HF.out wr.drew (Kd.C_drew hC))
      have h4d : wr.drew.heap[w.heap.size]? = some (.cells #[(Value.int .i64 a.a0), (Value.int .i64 a.a1), (Value.int .i64 a.a2), (Value.int .i64 a.a3), (Value.int .i64 a.a4), (Value.int .i64 a.a5)] 23 (0, 0)) := h4
      have h5d : wr.drew.heap[w.heap.size + 1]? = some (.cells #[.slice (some bd) ys.length c] 24 (0, 0)) := h5
      have h11d : wr.drew.heap[w1.heap.size]? = some (.cells #[.int .i64 k] 3 (0, 0)) := h11
      have hCd := Kd.C_drew hC
      have hPd := Kd.C_drew hP
      have hbd := hb.drew
      go_region_held3 (fun W => W.cell? ⟨w.heap.size, 0, none⟩ = some ((Value.int .i64 a.a0)) ∧ W.cell? ⟨w.heap.size, 1, none⟩ = some ((Value.int .i64 a.a1)) ∧ W.cell? ⟨w.heap.size, 2, none⟩ = some ((Value.int .i64 a.a2)) ∧ W.cell? ⟨w.heap.size, 3, none⟩ = some ((Value.int .i64 a.a3)) ∧ W.cell? ⟨w.heap.size, 4, none⟩ = some ((Value.int .i64 a.a4)) ∧ W.cell? ⟨w.heap.size, 5, none⟩ = some ((Value.int .i64 a.a5)) ∧ W.cell? ⟨w.heap.size + 1, 0, none⟩ = some (.slice (some bd) ys.length c) ∧ W.cell? ⟨w1.heap.size, 0, none⟩ = some ((Value.int .i64 k))) (go_keep) ((go_at_call 6; go_loud (refine Calls.mono HCF.out ?_; rintro e w3 ⟨FA, fc, rfl, hF, hbn⟩; have h4 := h4d; have h5 := h5d; have h11 := h11d; have hC := hCd; have hP := hPd; have hb := hbd; have h4 := kblk hbn h4; have h5 := kblk hbn h5; have h11 := kblk hbn h11; have hC := Kd.C_below hC hbn; have hP := Kd.C_below hP hbn; have hb := hb.trans (hbn.mono hb.size); have c0 := cell_of_row _ _ 0 _ _ _ h4; have c1 := cell_of_row _ _ 1 _ _ _ h4; have c2 := cell_of_row _ _ 2 _ _ _ h4; have c3 := cell_of_row _ _ 3 _ _ _ h4; have c4 := cell_of_row _ _ 4 _ _ _ h4; have c5 := cell_of_row _ _ 5 _ _ _ h4; have e5 := cell_of_row _ _ 0 _ _ _ h5; have e11 := cell_of_row _ _ 0 _ _ _ h11)))

      clear HCF h4d h5d h11d hCd hPd hbd hk4
      have hPk := rec_take hP (show k + 1 ≤ ys.length by omega)
      have HN : ∀ W, Kd.C kYr W (some bd) ys.length ys → Calls Try.prog 11 #[.agg #[(Value.int .i64 a.a0), (Value.int .i64 a.a1), (Value.int .i64 a.a2), (Value.int .i64 a.a3), (Value.int .i64 a.a4), (Value.int .i64 a.a5)], .slice (some bd) ys.length c, .int .i64 k] W fun e w' => e = .returned (.tuple #[.int .i64 (needOf a ys k).1, .int .i64 (needOf a ys k).2]) ∧ Below W.heap.size W w' := fun W hW => needed_any a (some bd) c ys k W hW hc hcm
      obtain ⟨S, hS⟩ : ∃ S, S = (stOf a st0 (ys.take k)).arr.sum := ⟨_, rfl⟩
      obtain ⟨B, hBb⟩ : ∃ B, B = (stOf a st0 (ys.take k)).bal := ⟨_, rfl⟩
      have hst := stOk_of Ha.out (ys.take k) 0 st0 (stOk_0 a) (fun z hz => Hys.out z (List.mem_of_mem_take hz))
      have hlk : (ys.take k).length = k := by rw [List.length_take]; omega
      rw [Nat.zero_add, hlk] at hst
      have hss := hst.arr.sum
      have hlo := hst.lo
      have hhi := hst.hi
      have hdd := due_ok Ha.out hyo
      rw [← hS] at hss
      rw [← hBb] at hlo hhi
      rw [← OW1.out] at hdd
      have hneed : needOf a ys k = if p.due + S = 0 then (0, 4) else (p.due + S - B, 0) := by
        unfold needOf
        rw [if_pos H0.out, if_pos (by omega)]
        have hyd : ys.getD k ⟨0, 0, 0⟩ = y := by rw [List.getD_eq_getElem?_getD, HY.out]; rfl
        simp only [Int.toNat_natCast, hyd, ← hS, ← hBb, ← OW1.out]
      rw [hneed] at HN
      obtain ⟨zz, hzz⟩ : ∃ zz, ps[k - 1]? = some zz := ⟨_, List.getElem?_eq_getElem (by omega)⟩
      have ow3 := OW3.out
      have ow4 := fun h => OW4.out zz h hzz
      rw [← hS] at ow3 ow4
      have hpaid := OW2.out
      rw [← hS, ← hBb] at hpaid
      have HPAID := Lib.hid hpaid
      have HS := Lib.hid hS
      have HB := Lib.hid hBb
      have HZ := Lib.hid hzz
      clear hst hlk hneed hS hBb hzz hpaid
      have hkm : (k : Int) - 1 = ((k - 1 : Nat) : Int) ∨ k = 0 := by omega
      have hpaid' : p.due + S = 0 → p.paid = 0 := fun h => by rw [HPAID.out]; unfold paidOf; rw [h]; omega
      by_cases hz0 : p.due + S = 0
      · rw [if_pos hz0] at HN
        have HNN := HN
        clear HN
        have HN := Lib.hid HNN
        have hp0 := hpaid' hz0
        have e2 : (p.paid == 0) = true := by simp [hp0]
        clear HNN hpaid' hp0
        by_cases hk0 : 0 < k
        · have hkm : (k : Int) - 1 = ((k - 1 : Nat) : Int) := by omega
          have kk : decide (0 < (k : Int)) = true := by simpa using hk0
          have hzs := ow4 hk0
          have e1 : (p.due + zz.arrears == 0) = true := by rw [hzs]; simp [hz0]
          have Hz0 := Lib.hid hz0
          have Hzs := Lib.hid hzs
          have b1 : 0 ≤ zz.arrears := by omega
          have b2 : zz.arrears ≤ 7000000000000 := by omega
          clear hz0 hzs ow3 ow4
          go_wp2_with (first | (go_at_call 10; go_loud (refine Calls.mono (pay_yes FA (some pa) fc pc (k + 1) (ps.take (k + 1)) _ hF hPk) ?_; rintro e w4 ⟨rfl, hbn⟩; have h4 := kblk hbn h4; have h5 := kblk hbn h5; have h11 := kblk hbn h11; have hC := Kd.C_below hC hbn; have hP := Kd.C_below hP hbn; have hb := hb.trans (hbn.mono hb.size); have c0 := cell_of_row _ _ 0 _ _ _ h4; have c1 := cell_of_row _ _ 1 _ _ _ h4; have c2 := cell_of_row _ _ 2 _ _ _ h4; have c3 := cell_of_row _ _ 3 _ _ _ h4; have c4 := cell_of_row _ _ 4 _ _ _ h4; have c5 := cell_of_row _ _ 5 _ _ _ h4; have e5 := cell_of_row _ _ 0 _ _ _ h5; have e11 := cell_of_row _ _ 0 _ _ _ h11)) | (go_at_call 11; go_loud (refine Calls.mono (HN.out _ hC) ?_; rintro e w5 ⟨rfl, hbn⟩; have h4 := kblk hbn h4; have h5 := kblk hbn h5; have h11 := kblk hbn h11; have hC := Kd.C_below hC hbn; have hP := Kd.C_below hP hbn; have hb := hb.trans (hbn.mono hb.size); have c0 := cell_of_row _ _ 0 _ _ _ h4; have c1 := cell_of_row _ _ 1 _ _ _ h4; have c2 := cell_of_row _ _ 2 _ _ _ h4; have c3 := cell_of_row _ _ 3 _ _ _ h4; have c4 := cell_of_row _ _ 4 _ _ _ h4; have c5 := cell_of_row _ _ 5 _ _ _ h4; have e5 := cell_of_row _ _ 0 _ _ _ h5; have e11 := cell_of_row _ _ 0 _ _ _ h11; obtain ⟨pa2, hpa2, p0, p1, p2, p3, p4, p5⟩ := pm_get hP k p HP.out; cases hpa2; obtain ⟨pa3, hpa3, z0, z1, z2, z3, z4, z5⟩ := pm_get hP (k - 1) zz HZ.out; cases hpa3)) | (go_at_call 5; refine (alive_any _).mono ?_; rintro e w9 ⟨rfl, hb9⟩))
          (go_ret; exact ⟨by simp, hb.trans (hb9.mono hb.size)⟩)
        · have kk : decide (0 < (k : Int)) = false := by simp; omega
          have hS0 := ow3 (by omega)
          have e1 : (p.due == 0) = true := by simp; omega
          have Hz0 := Lib.hid hz0
          have HS0 := Lib.hid hS0
          clear hz0 hS0 ow3 ow4 hkm
          go_wp2_with (first | (go_at_call 10; go_loud (refine Calls.mono (pay_yes FA (some pa) fc pc (k + 1) (ps.take (k + 1)) _ hF hPk) ?_; rintro e w4 ⟨rfl, hbn⟩; have h4 := kblk hbn h4; have h5 := kblk hbn h5; have h11 := kblk hbn h11; have hC := Kd.C_below hC hbn; have hP := Kd.C_below hP hbn; have hb := hb.trans (hbn.mono hb.size); have c0 := cell_of_row _ _ 0 _ _ _ h4; have c1 := cell_of_row _ _ 1 _ _ _ h4; have c2 := cell_of_row _ _ 2 _ _ _ h4; have c3 := cell_of_row _ _ 3 _ _ _ h4; have c4 := cell_of_row _ _ 4 _ _ _ h4; have c5 := cell_of_row _ _ 5 _ _ _ h4; have e5 := cell_of_row _ _ 0 _ _ _ h5; have e11 := cell_of_row _ _ 0 _ _ _ h11)) | (go_at_call 11; go_loud (refine Calls.mono (HN.out _ hC) ?_; rintro e w5 ⟨rfl, hbn⟩; have h4 := kblk hbn h4; have h5 := kblk hbn h5; have h11 := kblk hbn h11; have hC := Kd.C_below hC hbn; have hP := Kd.C_below hP hbn; have hb := hb.trans (hbn.mono hb.size); have c0 := cell_of_row _ _ 0 _ _ _ h4; have c1 := cell_of_row _ _ 1 _ _ _ h4; have c2 := cell_of_row _ _ 2 _ _ _ h4; have c3 := cell_of_row _ _ 3 _ _ _ h4; have c4 := cell_of_row _ _ 4 _ _ _ h4; have c5 := cell_of_row _ _ 5 _ _ _ h4; have e5 := cell_of_row _ _ 0 _ _ _ h5; have e11 := cell_of_row _ _ 0 _ _ _ h11; obtain ⟨pa2, hpa2, p0, p1, p2, p3, p4, p5⟩ := pm_get hP k p HP.out; cases hpa2; obtain ⟨pa3, hpa3, z0, z1, z2, z3, z4, z5⟩ := pm_get hP (k - 1) zz HZ.out; cases hpa3)) | (go_at_call 5; refine (alive_any _).mono ?_; rintro e w9 ⟨rfl, hb9⟩))
          (go_ret; exact ⟨by simp, hb.trans (hb9.mono hb.size)⟩)
      · rw [if_neg hz0] at HN
        have HNN := HN
        clear HN
        have HN := Lib.hid HNN
        clear HNN hpaid'
        have hpos : 0 < p.due + S := by omega
        have hn0 : -100000000000000 ≤ p.due + S - B ∧ p.due + S - B ≤ 100000000000000 := by omega
        obtain ⟨nn, hnn⟩ : ∃ nn, nn = p.due + S - B := ⟨_, rfl⟩
        rw [← hnn] at hn0
        have HNV := Lib.hid (show ∀ W, Kd.C kYr W (some bd) ys.length ys → Calls Try.prog 11 #[.agg #[(Value.int .i64 a.a0), (Value.int .i64 a.a1), (Value.int .i64 a.a2), (Value.int .i64 a.a3), (Value.int .i64 a.a4), (Value.int .i64 a.a5)], .slice (some bd) ys.length c, .int .i64 k] W fun e w' => e = .returned (.tuple #[.int .i64 nn, .int .i64 0]) ∧ Below W.heap.size W w' from fun W hW => by rw [hnn]; exact HN.out W hW)
        have HNL := Lib.hid (fun h => need_law Ha.out Hys.out HY.out nn (p.due + S) (by rw [OW1.out, HS.out]) h (by rw [hnn, HB.out]))
        have Hnn := Lib.hid hnn
        clear HN hnn
        by_cases ho1 : 1099511627776 < nn
        · have o1 : decide (1099511627776 < nn) = true := by simpa using ho1
          by_cases hk0 : 0 < k
          ·
            have hkm : (k : Int) - 1 = ((k - 1 : Nat) : Int) := by omega
            have kk : decide (0 < (k : Int)) = true := by simpa using hk0
            have hzs := ow4 hk0
            have b1 : 0 ≤ zz.arrears := by omega
            have b2 : zz.arrears ≤ 7000000000000 := by omega
            have e1 : (p.due + zz.arrears == 0) = false := by rw [beq_eq_false_iff_ne]; omega
            have Hzz := Lib.hid hzs
            clear hzs ow3 ow4 hz0
            go_wp2_with (first | (go_at_call 10; go_loud (refine Calls.mono (pay_yes FA (some pa) fc pc (k + 1) (ps.take (k + 1)) _ hF hPk) ?_; rintro e w4 ⟨rfl, hbn⟩; have h4 := kblk hbn h4; have h5 := kblk hbn h5; have h11 := kblk hbn h11; have hC := Kd.C_below hC hbn; have hP := Kd.C_below hP hbn; have hb := hb.trans (hbn.mono hb.size); have c0 := cell_of_row _ _ 0 _ _ _ h4; have c1 := cell_of_row _ _ 1 _ _ _ h4; have c2 := cell_of_row _ _ 2 _ _ _ h4; have c3 := cell_of_row _ _ 3 _ _ _ h4; have c4 := cell_of_row _ _ 4 _ _ _ h4; have c5 := cell_of_row _ _ 5 _ _ _ h4; have e5 := cell_of_row _ _ 0 _ _ _ h5; have e11 := cell_of_row _ _ 0 _ _ _ h11)) | (go_at_call 11; go_loud (refine Calls.mono (HNV.out _ hC) ?_; rintro e w5 ⟨rfl, hbn⟩; have h4 := kblk hbn h4; have h5 := kblk hbn h5; have h11 := kblk hbn h11; have hC := Kd.C_below hC hbn; have hP := Kd.C_below hP hbn; have hb := hb.trans (hbn.mono hb.size); have c0 := cell_of_row _ _ 0 _ _ _ h4; have c1 := cell_of_row _ _ 1 _ _ _ h4; have c2 := cell_of_row _ _ 2 _ _ _ h4; have c3 := cell_of_row _ _ 3 _ _ _ h4; have c4 := cell_of_row _ _ 4 _ _ _ h4; have c5 := cell_of_row _ _ 5 _ _ _ h4; have e5 := cell_of_row _ _ 0 _ _ _ h5; have e11 := cell_of_row _ _ 0 _ _ _ h11; obtain ⟨pa2, hpa2, p0, p1, p2, p3, p4, p5⟩ := pm_get hP k p HP.out; cases hpa2; obtain ⟨pa3, hpa3, z0, z1, z2, z3, z4, z5⟩ := pm_get hP (k - 1) zz HZ.out; cases hpa3)) | (go_at_call 5; refine (alive_any _).mono ?_; rintro e w9 ⟨rfl, hb9⟩))
            (go_ret; exact ⟨by simp, hb.trans (hb9.mono hb.size)⟩)
          ·
            have kk : decide (0 < (k : Int)) = false := by simp; omega
            have hS0 := ow3 (by omega)
            have e1 : (p.due == 0) = false := by rw [beq_eq_false_iff_ne]; omega
            have Hzz := Lib.hid hS0
            clear hS0 ow3 ow4 hz0 hkm
            go_wp2_with (first | (go_at_call 10; go_loud (refine Calls.mono (pay_yes FA (some pa) fc pc (k + 1) (ps.take (k + 1)) _ hF hPk) ?_; rintro e w4 ⟨rfl, hbn⟩; have h4 := kblk hbn h4; have h5 := kblk hbn h5; have h11 := kblk hbn h11; have hC := Kd.C_below hC hbn; have hP := Kd.C_below hP hbn; have hb := hb.trans (hbn.mono hb.size); have c0 := cell_of_row _ _ 0 _ _ _ h4; have c1 := cell_of_row _ _ 1 _ _ _ h4; have c2 := cell_of_row _ _ 2 _ _ _ h4; have c3 := cell_of_row _ _ 3 _ _ _ h4; have c4 := cell_of_row _ _ 4 _ _ _ h4; have c5 := cell_of_row _ _ 5 _ _ _ h4; have e5 := cell_of_row _ _ 0 _ _ _ h5; have e11 := cell_of_row _ _ 0 _ _ _ h11)) | (go_at_call 11; go_loud (refine Calls.mono (HNV.out _ hC) ?_; rintro e w5 ⟨rfl, hbn⟩; have h4 := kblk hbn h4; have h5 := kblk hbn h5; have h11 := kblk hbn h11; have hC := Kd.C_below hC hbn; have hP := Kd.C_below hP hbn; have hb := hb.trans (hbn.mono hb.size); have c0 := cell_of_row _ _ 0 _ _ _ h4; have c1 := cell_of_row _ _ 1 _ _ _ h4; have c2 := cell_of_row _ _ 2 _ _ _ h4; have c3 := cell_of_row _ _ 3 _ _ _ h4; have c4 := cell_of_row _ _ 4 _ _ _ h4; have c5 := cell_of_row _ _ 5 _ _ _ h4; have e5 := cell_of_row _ _ 0 _ _ _ h5; have e11 := cell_of_row _ _ 0 _ _ _ h11; obtain ⟨pa2, hpa2, p0, p1, p2, p3, p4, p5⟩ := pm_get hP k p HP.out; cases hpa2; obtain ⟨pa3, hpa3, z0, z1, z2, z3, z4, z5⟩ := pm_get hP (k - 1) zz HZ.out; cases hpa3)) | (go_at_call 5; refine (alive_any _).mono ?_; rintro e w9 ⟨rfl, hb9⟩))
            (go_ret; exact ⟨by simp, hb.trans (hb9.mono hb.size)⟩)
        · have o1 : decide (1099511627776 < nn) = false := by simpa using ho1
          by_cases ho2 : nn ≤ -1099511627776
          · have o2 : decide (nn ≤ -1099511627776) = true := by simpa using ho2
            by_cases hk0 : 0 < k
            ·
              have hkm : (k : Int) - 1 = ((k - 1 : Nat) : Int) := by omega
              have kk : decide (0 < (k : Int)) = true := by simpa using hk0
              have hzs := ow4 hk0
              have b1 : 0 ≤ zz.arrears := by omega
              have b2 : zz.arrears ≤ 7000000000000 := by omega
              have e1 : (p.due + zz.arrears == 0) = false := by rw [beq_eq_false_iff_ne]; omega
              have Hzz := Lib.hid hzs
              clear hzs ow3 ow4 hz0
              go_wp2_with (first | (go_at_call 10; go_loud (refine Calls.mono (pay_yes FA (some pa) fc pc (k + 1) (ps.take (k + 1)) _ hF hPk) ?_; rintro e w4 ⟨rfl, hbn⟩; have h4 := kblk hbn h4; have h5 := kblk hbn h5; have h11 := kblk hbn h11; have hC := Kd.C_below hC hbn; have hP := Kd.C_below hP hbn; have hb := hb.trans (hbn.mono hb.size); have c0 := cell_of_row _ _ 0 _ _ _ h4; have c1 := cell_of_row _ _ 1 _ _ _ h4; have c2 := cell_of_row _ _ 2 _ _ _ h4; have c3 := cell_of_row _ _ 3 _ _ _ h4; have c4 := cell_of_row _ _ 4 _ _ _ h4; have c5 := cell_of_row _ _ 5 _ _ _ h4; have e5 := cell_of_row _ _ 0 _ _ _ h5; have e11 := cell_of_row _ _ 0 _ _ _ h11)) | (go_at_call 11; go_loud (refine Calls.mono (HNV.out _ hC) ?_; rintro e w5 ⟨rfl, hbn⟩; have h4 := kblk hbn h4; have h5 := kblk hbn h5; have h11 := kblk hbn h11; have hC := Kd.C_below hC hbn; have hP := Kd.C_below hP hbn; have hb := hb.trans (hbn.mono hb.size); have c0 := cell_of_row _ _ 0 _ _ _ h4; have c1 := cell_of_row _ _ 1 _ _ _ h4; have c2 := cell_of_row _ _ 2 _ _ _ h4; have c3 := cell_of_row _ _ 3 _ _ _ h4; have c4 := cell_of_row _ _ 4 _ _ _ h4; have c5 := cell_of_row _ _ 5 _ _ _ h4; have e5 := cell_of_row _ _ 0 _ _ _ h5; have e11 := cell_of_row _ _ 0 _ _ _ h11; obtain ⟨pa2, hpa2, p0, p1, p2, p3, p4, p5⟩ := pm_get hP k p HP.out; cases hpa2; obtain ⟨pa3, hpa3, z0, z1, z2, z3, z4, z5⟩ := pm_get hP (k - 1) zz HZ.out; cases hpa3)) | (go_at_call 5; refine (alive_any _).mono ?_; rintro e w9 ⟨rfl, hb9⟩))
              (go_ret; exact ⟨by simp, hb.trans (hb9.mono hb.size)⟩)
            ·
              have kk : decide (0 < (k : Int)) = false := by simp; omega
              have hS0 := ow3 (by omega)
              have e1 : (p.due == 0) = false := by rw [beq_eq_false_iff_ne]; omega
              have Hzz := Lib.hid hS0
              clear hS0 ow3 ow4 hz0 hkm
              go_wp2_with (first | (go_at_call 10; go_loud (refine Calls.mono (pay_yes FA (some pa) fc pc (k + 1) (ps.take (k + 1)) _ hF hPk) ?_; rintro e w4 ⟨rfl, hbn⟩; have h4 := kblk hbn h4; have h5 := kblk hbn h5; have h11 := kblk hbn h11; have hC := Kd.C_below hC hbn; have hP := Kd.C_below hP hbn; have hb := hb.trans (hbn.mono hb.size); have c0 := cell_of_row _ _ 0 _ _ _ h4; have c1 := cell_of_row _ _ 1 _ _ _ h4; have c2 := cell_of_row _ _ 2 _ _ _ h4; have c3 := cell_of_row _ _ 3 _ _ _ h4; have c4 := cell_of_row _ _ 4 _ _ _ h4; have c5 := cell_of_row _ _ 5 _ _ _ h4; have e5 := cell_of_row _ _ 0 _ _ _ h5; have e11 := cell_of_row _ _ 0 _ _ _ h11)) | (go_at_call 11; go_loud (refine Calls.mono (HNV.out _ hC) ?_; rintro e w5 ⟨rfl, hbn⟩; have h4 := kblk hbn h4; have h5 := kblk hbn h5; have h11 := kblk hbn h11; have hC := Kd.C_below hC hbn; have hP := Kd.C_below hP hbn; have hb := hb.trans (hbn.mono hb.size); have c0 := cell_of_row _ _ 0 _ _ _ h4; have c1 := cell_of_row _ _ 1 _ _ _ h4; have c2 := cell_of_row _ _ 2 _ _ _ h4; have c3 := cell_of_row _ _ 3 _ _ _ h4; have c4 := cell_of_row _ _ 4 _ _ _ h4; have c5 := cell_of_row _ _ 5 _ _ _ h4; have e5 := cell_of_row _ _ 0 _ _ _ h5; have e11 := cell_of_row _ _ 0 _ _ _ h11; obtain ⟨pa2, hpa2, p0, p1, p2, p3, p4, p5⟩ := pm_get hP k p HP.out; cases hpa2; obtain ⟨pa3, hpa3, z0, z1, z2, z3, z4, z5⟩ := pm_get hP (k - 1) zz HZ.out; cases hpa3)) | (go_at_call 5; refine (alive_any _).mono ?_; rintro e w9 ⟨rfl, hb9⟩))
              (go_ret; exact ⟨by simp, hb.trans (hb9.mono hb.size)⟩)
          · have o2 : decide (nn ≤ -1099511627776) = false := by simp; omega
            have hne := errOf_set H0.out k y HY.out nn (by omega) (by omega)
            have hne1 := errOf_set H0.out k y HY.out (nn - 1) (by omega) (by omega)
            obtain ⟨nl1, nl2⟩ := HNL.out hpos
            have hel : (paysOf a st0 (ys.set k { y with profit := nn })).length = ys.length := by rw [paysOf_length, List.length_set]
            have hfl : (paysOf a st0 (ys.set k { y with profit := nn - 1 })).length = ys.length := by rw [paysOf_length, List.length_set]
            obtain ⟨en, hen⟩ : ∃ en, paysOf a st0 (ys.set k { y with profit := nn }) = en := ⟨_, rfl⟩
            obtain ⟨fn, hfn⟩ : ∃ fn, paysOf a st0 (ys.set k { y with profit := nn - 1 }) = fn := ⟨_, rfl⟩
            rw [hen] at nl1 hel
            rw [hfn] at nl2 hfl
            obtain ⟨pe, hpe⟩ : ∃ pe, en[k]? = some pe := ⟨_, List.getElem?_eq_getElem (by omega)⟩
            obtain ⟨pf, hpf⟩ : ∃ pf, fn[k]? = some pf := ⟨_, List.getElem?_eq_getElem (by omega)⟩
            obtain ⟨i1, i2, i3⟩ := nl1 pe hpe
            have i4 := nl2 pf hpf
            have HNE := Lib.hid hne
            have HNE1 := Lib.hid hne1
            have HEN := Lib.hid hen
            have HFN := Lib.hid hfn
            have HPE := Lib.hid hpe
            have HPF := Lib.hid hpf
            clear hne hne1 hen hfn hpe hpf nl1 nl2 hel hfl
            by_cases hk0 : 0 < k
            ·
              have hkm : (k : Int) - 1 = ((k - 1 : Nat) : Int) := by omega
              have kk : decide (0 < (k : Int)) = true := by simpa using hk0
              have hzs := ow4 hk0
              have b1 : 0 ≤ zz.arrears := by omega
              have b2 : zz.arrears ≤ 7000000000000 := by omega
              have e1 : (p.due + zz.arrears == 0) = false := by rw [beq_eq_false_iff_ne]; omega
              have g1 : (pe.paid == p.due + zz.arrears) = true := by rw [beq_iff_eq]; omega
              have g2 : (pe.arrears == 0) = true := by rw [beq_iff_eq]; omega
              have g3 : (pe.rebate == 0) = true := by rw [beq_iff_eq]; omega
              have g4 : (pf.paid == p.due + zz.arrears - 1) = true := by rw [beq_iff_eq]; omega
              have Hzz := Lib.hid hzs
              clear hzs ow3 ow4 hz0 i1 i2 i3 i4
              go_wp2_with (first | (go_at_call 10; go_loud (refine Calls.mono (pay_yes FA (some pa) fc pc (k + 1) (ps.take (k + 1)) _ hF hPk) ?_; rintro e w4 ⟨rfl, hbn⟩; have h4 := kblk hbn h4; have h5 := kblk hbn h5; have h11 := kblk hbn h11; have hC := Kd.C_below hC hbn; have hP := Kd.C_below hP hbn; have hb := hb.trans (hbn.mono hb.size); have c0 := cell_of_row _ _ 0 _ _ _ h4; have c1 := cell_of_row _ _ 1 _ _ _ h4; have c2 := cell_of_row _ _ 2 _ _ _ h4; have c3 := cell_of_row _ _ 3 _ _ _ h4; have c4 := cell_of_row _ _ 4 _ _ _ h4; have c5 := cell_of_row _ _ 5 _ _ _ h4; have e5 := cell_of_row _ _ 0 _ _ _ h5; have e11 := cell_of_row _ _ 0 _ _ _ h11)) | (go_at_call 11; go_loud (refine Calls.mono (HNV.out _ hC) ?_; rintro e w5 ⟨rfl, hbn⟩; have h4 := kblk hbn h4; have h5 := kblk hbn h5; have h11 := kblk hbn h11; have hC := Kd.C_below hC hbn; have hP := Kd.C_below hP hbn; have hb := hb.trans (hbn.mono hb.size); have c0 := cell_of_row _ _ 0 _ _ _ h4; have c1 := cell_of_row _ _ 1 _ _ _ h4; have c2 := cell_of_row _ _ 2 _ _ _ h4; have c3 := cell_of_row _ _ 3 _ _ _ h4; have c4 := cell_of_row _ _ 4 _ _ _ h4; have c5 := cell_of_row _ _ 5 _ _ _ h4; have e5 := cell_of_row _ _ 0 _ _ _ h5; have e11 := cell_of_row _ _ 0 _ _ _ h11; obtain ⟨pa2, hpa2, p0, p1, p2, p3, p4, p5⟩ := pm_get hP k p HP.out; cases hpa2; obtain ⟨pa3, hpa3, z0, z1, z2, z3, z4, z5⟩ := pm_get hP (k - 1) zz HZ.out; cases hpa3)) | (go_at_call 5; refine (alive_any _).mono ?_; rintro e w9 ⟨rfl, hb9⟩) | (go_at_call 9; (with_reducible refine Calls.mono (with_any a w.heap.size (w.heap.size + 1) w1.heap.size (some bd) c ys k nn y _ h4 h5 h11 hC hc HY.out HNE.out hl) ?_); go_loud (rintro e w6 ⟨EA, ec, rfl, hEn, hec, hbn⟩; rw [HEN.out] at hEn; have h4 := kblk hbn h4; have h5 := kblk hbn h5; have h11 := kblk hbn h11; have hC := Kd.C_below hC hbn; have hP := Kd.C_below hP hbn; have hb := hb.trans (hbn.mono hb.size); have c0 := cell_of_row _ _ 0 _ _ _ h4; have c1 := cell_of_row _ _ 1 _ _ _ h4; have c2 := cell_of_row _ _ 2 _ _ _ h4; have c3 := cell_of_row _ _ 3 _ _ _ h4; have c4 := cell_of_row _ _ 4 _ _ _ h4; have c5 := cell_of_row _ _ 5 _ _ _ h4; have e5 := cell_of_row _ _ 0 _ _ _ h5; have e11 := cell_of_row _ _ 0 _ _ _ h11; obtain ⟨pa2, hpa2, p0, p1, p2, p3, p4, p5⟩ := pm_get hP k p HP.out; cases hpa2; obtain ⟨pa3, hpa3, z0, z1, z2, z3, z4, z5⟩ := pm_get hP (k - 1) zz HZ.out; cases hpa3; obtain ⟨ea, hea, s0, s1, s2, s3, s4, s5⟩ := pm_get hEn k pe HPE.out; subst hea)) | (go_at_call 9; (with_reducible refine Calls.mono (with_any a w.heap.size (w.heap.size + 1) w1.heap.size (some bd) c ys k (nn - 1) y _ h4 h5 h11 hC hc HY.out HNE1.out hl) ?_); go_loud (rintro e w7 ⟨FB, fb, rfl, hFn, hfc, hbn⟩; rw [HFN.out] at hFn; have hEn := Kd.C_below hEn hbn; have h4 := kblk hbn h4; have h5 := kblk hbn h5; have h11 := kblk hbn h11; have hC := Kd.C_below hC hbn; have hP := Kd.C_below hP hbn; have hb := hb.trans (hbn.mono hb.size); have c0 := cell_of_row _ _ 0 _ _ _ h4; have c1 := cell_of_row _ _ 1 _ _ _ h4; have c2 := cell_of_row _ _ 2 _ _ _ h4; have c3 := cell_of_row _ _ 3 _ _ _ h4; have c4 := cell_of_row _ _ 4 _ _ _ h4; have c5 := cell_of_row _ _ 5 _ _ _ h4; have e5 := cell_of_row _ _ 0 _ _ _ h5; have e11 := cell_of_row _ _ 0 _ _ _ h11; obtain ⟨pa2, hpa2, p0, p1, p2, p3, p4, p5⟩ := pm_get hP k p HP.out; cases hpa2; obtain ⟨pa3, hpa3, z0, z1, z2, z3, z4, z5⟩ := pm_get hP (k - 1) zz HZ.out; cases hpa3; obtain ⟨ea', hea', s0, s1, s2, s3, s4, s5⟩ := pm_get hEn k pe HPE.out; cases hea'; obtain ⟨fa, hfa, u0, u1, u2, u3, u4, u5⟩ := pm_get hFn k pf HPF.out; subst hfa)))
              (go_ret; exact ⟨by simp, hb.trans (hb9.mono hb.size)⟩)
            ·
              have kk : decide (0 < (k : Int)) = false := by simp; omega
              have hS0 := ow3 (by omega)
              have e1 : (p.due == 0) = false := by rw [beq_eq_false_iff_ne]; omega
              have g1 : (pe.paid == p.due) = true := by rw [beq_iff_eq]; omega
              have g2 : (pe.arrears == 0) = true := by rw [beq_iff_eq]; omega
              have g3 : (pe.rebate == 0) = true := by rw [beq_iff_eq]; omega
              have g4 : (pf.paid == p.due - 1) = true := by rw [beq_iff_eq]; omega
              have Hzz := Lib.hid hS0
              clear hS0 ow3 ow4 hz0 i1 i2 i3 i4 hkm
              go_wp2_with (first | (go_at_call 10; go_loud (refine Calls.mono (pay_yes FA (some pa) fc pc (k + 1) (ps.take (k + 1)) _ hF hPk) ?_; rintro e w4 ⟨rfl, hbn⟩; have h4 := kblk hbn h4; have h5 := kblk hbn h5; have h11 := kblk hbn h11; have hC := Kd.C_below hC hbn; have hP := Kd.C_below hP hbn; have hb := hb.trans (hbn.mono hb.size); have c0 := cell_of_row _ _ 0 _ _ _ h4; have c1 := cell_of_row _ _ 1 _ _ _ h4; have c2 := cell_of_row _ _ 2 _ _ _ h4; have c3 := cell_of_row _ _ 3 _ _ _ h4; have c4 := cell_of_row _ _ 4 _ _ _ h4; have c5 := cell_of_row _ _ 5 _ _ _ h4; have e5 := cell_of_row _ _ 0 _ _ _ h5; have e11 := cell_of_row _ _ 0 _ _ _ h11)) | (go_at_call 11; go_loud (refine Calls.mono (HNV.out _ hC) ?_; rintro e w5 ⟨rfl, hbn⟩; have h4 := kblk hbn h4; have h5 := kblk hbn h5; have h11 := kblk hbn h11; have hC := Kd.C_below hC hbn; have hP := Kd.C_below hP hbn; have hb := hb.trans (hbn.mono hb.size); have c0 := cell_of_row _ _ 0 _ _ _ h4; have c1 := cell_of_row _ _ 1 _ _ _ h4; have c2 := cell_of_row _ _ 2 _ _ _ h4; have c3 := cell_of_row _ _ 3 _ _ _ h4; have c4 := cell_of_row _ _ 4 _ _ _ h4; have c5 := cell_of_row _ _ 5 _ _ _ h4; have e5 := cell_of_row _ _ 0 _ _ _ h5; have e11 := cell_of_row _ _ 0 _ _ _ h11; obtain ⟨pa2, hpa2, p0, p1, p2, p3, p4, p5⟩ := pm_get hP k p HP.out; cases hpa2; obtain ⟨pa3, hpa3, z0, z1, z2, z3, z4, z5⟩ := pm_get hP (k - 1) zz HZ.out; cases hpa3)) | (go_at_call 5; refine (alive_any _).mono ?_; rintro e w9 ⟨rfl, hb9⟩) | (go_at_call 9; (with_reducible refine Calls.mono (with_any a w.heap.size (w.heap.size + 1) w1.heap.size (some bd) c ys k nn y _ h4 h5 h11 hC hc HY.out HNE.out hl) ?_); go_loud (rintro e w6 ⟨EA, ec, rfl, hEn, hec, hbn⟩; rw [HEN.out] at hEn; have h4 := kblk hbn h4; have h5 := kblk hbn h5; have h11 := kblk hbn h11; have hC := Kd.C_below hC hbn; have hP := Kd.C_below hP hbn; have hb := hb.trans (hbn.mono hb.size); have c0 := cell_of_row _ _ 0 _ _ _ h4; have c1 := cell_of_row _ _ 1 _ _ _ h4; have c2 := cell_of_row _ _ 2 _ _ _ h4; have c3 := cell_of_row _ _ 3 _ _ _ h4; have c4 := cell_of_row _ _ 4 _ _ _ h4; have c5 := cell_of_row _ _ 5 _ _ _ h4; have e5 := cell_of_row _ _ 0 _ _ _ h5; have e11 := cell_of_row _ _ 0 _ _ _ h11; obtain ⟨pa2, hpa2, p0, p1, p2, p3, p4, p5⟩ := pm_get hP k p HP.out; cases hpa2; obtain ⟨pa3, hpa3, z0, z1, z2, z3, z4, z5⟩ := pm_get hP (k - 1) zz HZ.out; cases hpa3; obtain ⟨ea, hea, s0, s1, s2, s3, s4, s5⟩ := pm_get hEn k pe HPE.out; subst hea)) | (go_at_call 9; (with_reducible refine Calls.mono (with_any a w.heap.size (w.heap.size + 1) w1.heap.size (some bd) c ys k (nn - 1) y _ h4 h5 h11 hC hc HY.out HNE1.out hl) ?_); go_loud (rintro e w7 ⟨FB, fb, rfl, hFn, hfc, hbn⟩; rw [HFN.out] at hFn; have hEn := Kd.C_below hEn hbn; have h4 := kblk hbn h4; have h5 := kblk hbn h5; have h11 := kblk hbn h11; have hC := Kd.C_below hC hbn; have hP := Kd.C_below hP hbn; have hb := hb.trans (hbn.mono hb.size); have c0 := cell_of_row _ _ 0 _ _ _ h4; have c1 := cell_of_row _ _ 1 _ _ _ h4; have c2 := cell_of_row _ _ 2 _ _ _ h4; have c3 := cell_of_row _ _ 3 _ _ _ h4; have c4 := cell_of_row _ _ 4 _ _ _ h4; have c5 := cell_of_row _ _ 5 _ _ _ h4; have e5 := cell_of_row _ _ 0 _ _ _ h5; have e11 := cell_of_row _ _ 0 _ _ _ h11; obtain ⟨pa2, hpa2, p0, p1, p2, p3, p4, p5⟩ := pm_get hP k p HP.out; cases hpa2; obtain ⟨pa3, hpa3, z0, z1, z2, z3, z4, z5⟩ := pm_get hP (k - 1) zz HZ.out; cases hpa3; obtain ⟨ea', hea', s0, s1, s2, s3, s4, s5⟩ := pm_get hEn k pe HPE.out; cases hea'; obtain ⟨fa, hfa, u0, u1, u2, u3, u4, u5⟩ := pm_get hFn k pf HPF.out; subst hfa)))
              (go_ret; exact ⟨by simp, hb.trans (hb9.mono hb.size)⟩)
end Go.Proofs.Ytahfmaocihlcnaa
