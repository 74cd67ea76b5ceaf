/- The walk of ScaleWhole, where Run answers. -/
import Derived.Outline
import Derived.Test.YtahfmaocihlcnaaS18a
set_option linter.unusedVariables false
set_option linter.unusedSimpArgs false
namespace Go.Proofs.Ytahfmaocihlcnaa
open Go.RowKit Go.Shelf GW Go.Proofs.YtahfmaocihlcnaaW.PrintWords Go.Proofs.YtahfmaocihlcnaaW.PrintLast Go.Proofs.YtahfmaocihlcnaaW.PrintMore
attribute [local go_sem] max_ii min_ii undef

theorem idx39 (g o r : Nat) (hr : r < 6) (W : World) : (Instr.index 39 (.agg #[.pointer (some ⟨g, o, none⟩), .pointer (some ⟨g, o + 1, none⟩), .pointer (some ⟨g, o + 2, none⟩), .pointer (some ⟨g, o + 3, none⟩), .pointer (some ⟨g, o + 4, none⟩), .pointer (some ⟨g, o + 5, none⟩)]) (.int .i64 r)).run Try.prog W = .ok (.pointer (some ⟨g, o + r, none⟩)) W := by
  rcases r with _ | _ | _ | _ | _ | _ | r
  · kernel_rfl
  · kernel_rfl
  · kernel_rfl
  · kernel_rfl
  · kernel_rfl
  · kernel_rfl
  · omega
theorem add_zero0 (g k : Nat) : (⟨g, 0, none⟩ : Addr).add k = ⟨g, k, none⟩ := by
  unfold Addr.add
  split
  · rename_i h; subst h; rfl
  · simp
set_option maxRecDepth 100000 in
set_option maxHeartbeats 40000000 in
theorem whole_ok (a : Ac) (A : Option Addr) (c : Nat) (ys : List Yr) (f t wh : Int) (w : World) (hf0 : 0 ≤ f) (hf1 : f ≤ 255) (ht0 : 0 ≤ t) (ht1 : t ≤ 255) (hwh0 : 0 ≤ wh) (hwh1 : wh ≤ 255) (hC : Kd.C kYr w A ys.length ys) (hc : ys.length ≤ c) (hl : ys.length ≤ 24) (h0 : errOf a ys = 0) :
    Calls Try.prog 3 #[.agg #[(Value.int .i64 a.a0), (Value.int .i64 a.a1), (Value.int .i64 a.a2), (Value.int .i64 a.a3), (Value.int .i64 a.a4), (Value.int .i64 a.a5)], .slice A ys.length c, .int .u8 f, .int .u8 t, .int .u8 wh] w fun e w' => e = .returned (.bool true) ∧ Below w.heap.size w w' := by
  obtain ⟨ha, hlen, hys⟩ := errOf_zero h0
  have hA0 := bk_new w (.cells #[(Value.int .i64 a.a0), (Value.int .i64 a.a1), (Value.int .i64 a.a2), (Value.int .i64 a.a3), (Value.int .i64 a.a4), (Value.int .i64 a.a5)] 23)
  have hC0 := Kd.C_alloc hC (.cells #[(Value.int .i64 a.a0), (Value.int .i64 a.a1), (Value.int .i64 a.a2), (Value.int .i64 a.a3), (Value.int .i64 a.a4), (Value.int .i64 a.a5)] 23)
  have HR := Lib.hid (run_ok a A c ys _ hC0 hc h0)
  have H0 := Lib.hid h0
  have Ha := Lib.hid ha
  have Hys := Lib.hid hys
  clear h0 ha hys
  have hpl := paysOf_length a ys st0
  generalize hps : paysOf a st0 ys = ps at *
  have Hps := Lib.hid hps
  clear hps
  have hb0 : Below w.heap.size w (w.alloc (.cells #[(Value.int .i64 a.a0), (Value.int .i64 a.a1), (Value.int .i64 a.a2), (Value.int .i64 a.a3), (Value.int .i64 a.a4), (Value.int .i64 a.a5)] 23)) := (Below.refl _ w).alloc (Nat.le_refl _) _
  go_enter Try.func3, Try.ntmps3
  go_wp2_with (first | (go_at_call 6; refine HR.out.mono ?_; rintro e w1 ⟨PA, pc, rfl, hP, hpc, hb1⟩; have hA := kblk hb1 hA0; have hC := Kd.C_below hC0 hb1; have hb := hb0.trans (hb1.mono hb0.size); clear hA0 hC0 hb0 HR; have c0 := cell_of_row _ _ 0 _ _ _ hA; have c1 := cell_of_row _ _ 1 _ _ _ hA; have c2 := cell_of_row _ _ 2 _ _ _ hA; have c3 := cell_of_row _ _ 3 _ _ _ hA; have c4 := cell_of_row _ _ 4 _ _ _ hA; have c5 := cell_of_row _ _ 5 _ _ _ hA) | (go_at_call 7; refine (act_yes a Ha.out _).mono ?_; rintro e w2 ⟨rfl, hb2⟩; have hA := kblk hb2 hA; have hC := Kd.C_below hC hb2; have hP := Kd.C_below hP hb2; have hb := hb.trans (hb2.mono hb.size); have c0 := cell_of_row _ _ 0 _ _ _ hA; have c1 := cell_of_row _ _ 1 _ _ _ hA; have c2 := cell_of_row _ _ 2 _ _ _ hA; have c3 := cell_of_row _ _ 3 _ _ _ hA; have c4 := cell_of_row _ _ 4 _ _ _ hA; have c5 := cell_of_row _ _ 5 _ _ _ hA))
  have hlen := hlen
  have hw2 : Below w.heap.size w w2 := hb
  go_loopw [13, 14, 15, 72] (fun e pd rb i wr => ∃ (k : Nat) (E P R : Int), k ≤ ys.length ∧ e = .int .i64 E ∧ pd = .int .i64 P ∧ rb = .int .i64 R ∧ i = .int .i64 k ∧ Hid (E = P + R + (stOf a st0 (ys.take k)).bal) ∧ (0 ≤ P ∧ P ≤ k * 8796093022208 ∧ 0 ≤ R ∧ R ≤ k * 8796093022208) ∧ Below w2.heap.size w2 wr) (fun _ _ _ i _ => ys.length - (intOf i).toNat)
  case atStart => exact ⟨0, 0, 0, 0, Nat.zero_le _, rfl, rfl, rfl, rfl, Lib.hid (by simp [stOf, st0]), by simp, Below.refl _ _⟩
  case round =>
    obtain ⟨k, E, P, R, hk, rfl, rfl, rfl, rfl, HE, ⟨hP0, hP1, hR0, hR1⟩, hB⟩ := hrel
    by_cases hlt : k < ys.length
    · obtain ⟨y, hy⟩ : ∃ y, ys[k]? = some y := ⟨_, List.getElem?_eq_getElem hlt⟩
      obtain ⟨x, hx⟩ : ∃ x, ps[k]? = some x := ⟨_, List.getElem?_eq_getElem (by omega)⟩
      have hst := stOk_of Ha.out (ys.take k) 0 st0 (stOk_0 a) (fun z hz => Hys.out z (List.mem_of_mem_take hz))
      have hlk : (ys.take k).length = k := by rw [List.length_take]; omega
      rw [Nat.zero_add, hlk] at hst
      have hyo := Hys.out y (List.mem_of_getElem? hy)
      have hnx : stOf a st0 (ys.take (k + 1)) = nextS a (stOf a st0 (ys.take k)) y := by rw [List.take_add_one, hy, ← stOf_snoc]; rfl
      have hxe : x = nextP a (stOf a st0 (ys.take k)) y := by
        have := paysOf_get a ys st0 k y hy
        rw [Hps.out, hx] at this
        exact Option.some.inj this
      obtain ⟨q1, q2, q3, q4, q5, q6, q7, q8, q9, q10, q11, q12, q13, q14, q15, q16, q17, q18, q19⟩ := year_law Ha.out hst (by omega) hyo
      rw [← hnx] at q18
      rw [← hxe] at q1 q2 q3 q4 q5 q6 q7 q8 q9 q10 q11 q12 q13 q14 q15 q16 q17 q18
      have hlo := hst.lo
      have hhi := hst.hi
      have hEE := HE.out
      generalize (stOf a st0 (ys.take k)).bal = B at *
      obtain ⟨ad, hA', p0, p1, p2, p3, p4, p5⟩ := pm_get (Kd.C_below hP hB) k x hx
      obtain ⟨bd, hBd, z0, z1, z2⟩ := yr_get (Kd.C_below hC hB) k y hy
      subst hA' hBd
      have hE0 : -1000000000000000 ≤ E ∧ E ≤ 1000000000000000 := by omega
      have m1 := Ha.out.m1
      have f0 := hyo.f0
      have f1 := hyo.f1
      have c0' := hyo.c0
      have c1' := hyo.c1
      have hcr0 : 0 ≤ y.cap * x.rate := Int.mul_nonneg c0' q7
      have hcr1 : y.cap * x.rate ≤ 1099511627776 * 10000 := Int.mul_le_mul c1' q8 q7 (by omega)
      have hsum : E + y.profit = P + x.paid + (R + x.rebate) + x.reserve := by omega
      have HY := Lib.hid hy
      have HX := Lib.hid hx
      have Hnx := Lib.hid hnx
      have H18 := Lib.hid q18
      have HSUM := Lib.hid hsum
      have HSUM2 := Lib.hid (show E + y.profit = P + x.paid + (R + x.rebate) + x.reserve from hsum)
      have d1 : decide (a.a4 < x.reserve) = false := by simpa using q2
      have d2 : decide (x.arrears < 0) = false := by simpa using q3
      have d3 : decide (x.paid < 0) = false := by simpa using q4
      have d4 : decide (x.rebate < 0) = false := by simpa using q5
      have d8 : decide (x.rate < 0) = false := by simpa using q7
      have d9 : decide (10000 < x.rate) = false := by simpa using q8
      have d10 : decide (y.cap * x.rate < x.due * 10000) = false := by simpa using q10
      have d11 : decide ((x.due + 1) * 10000 ≤ y.cap * x.rate) = false := by simpa using q11
      have HA := kblk hB hA
      have e4 := cell_of_row _ _ 4 _ _ _ HA
      clear hy hx hnx hyo hst hxe q1 q18 q19 hEE hsum
      go_wp2
      have hBa : Below wr.heap.size wr (wr.alloc (.cells #[(Value.int .i64 x.rate), (Value.int .i64 x.due), (Value.int .i64 x.paid), (Value.int .i64 x.arrears), (Value.int .i64 x.reserve), (Value.int .i64 x.rebate)] 32)) := (Below.refl _ _).alloc (Nat.le_refl _) _
      have z1 := kcell hBa z1
      have z2 := kcell hBa z2
      have e4 := kcell hBa e4
      have hBB := hB.trans (hBa.mono hB.size)
      have HX0 := bk_new wr (.cells #[(Value.int .i64 x.rate), (Value.int .i64 x.due), (Value.int .i64 x.paid), (Value.int .i64 x.arrears), (Value.int .i64 x.reserve), (Value.int .i64 x.rebate)] 32)
      have r2 := cell_of_row _ _ 2 _ _ _ HX0
      have r5 := cell_of_row _ _ 5 _ _ _ HX0
      go_region_held3 (fun W => W.cell? ⟨wr.heap.size, 2, none⟩ = some ((Value.int .i64 x.paid)) ∧ W.cell? ⟨wr.heap.size, 5, none⟩ = some ((Value.int .i64 x.rebate)) ∧ W.cell? ⟨(bd.add (k * 3)).block, (bd.add (k * 3)).off + 2, none⟩ = some ((Value.int .i64 y.profit))) (go_keep) (fail)
      have dS : (E + y.profit == P + x.paid + (R + x.rebate) + x.reserve) = true := by rw [HSUM.out]; simp
      have dS' : (E + y.profit != P + x.paid + (R + x.rebate) + x.reserve) = false := by rw [HSUM.out]; simp
      have dS1 : E + y.profit ≤ P + x.paid + (R + x.rebate) + x.reserve := by rw [HSUM.out]; exact Int.le_refl _
      have dS2 : P + x.paid + (R + x.rebate) + x.reserve ≤ E + y.profit := by rw [HSUM.out]; exact Int.le_refl _
      have r0 := cell_of_row _ _ 0 _ _ _ HX0
      have r1 := cell_of_row _ _ 1 _ _ _ HX0
      have r3 := cell_of_row _ _ 3 _ _ _ HX0
      have r4 := cell_of_row _ _ 4 _ _ _ HX0
      by_cases h5 : 0 < x.arrears
      · have h6 : decide (0 < x.rebate) = false := by have := (q6 h5).2; simpa using this
        have h7 : decide (0 < x.reserve) = false := by have := (q6 h5).1; simpa using this
        have h5 : decide (0 < x.arrears) = true := by simpa using h5
        clear q6 q9
        (go_wp2; all_goals (first | (exfalso; refine undef_bool ?_; with_reducible assumption) | (go_quiet (fail); go_wp2; all_goals (first | (exfalso; refine undef_bool ?_; with_reducible assumption) | (go_roundw; (case rel => exact ⟨k + 1, E + y.profit, P + x.paid, R + x.rebate, by omega, rfl, rfl, rfl, by go_num, Lib.hid (by rw [H18.out]; exact HSUM2.out), by omega, (by first | exact below_drewN hBB _ | exact hBB.drew.drew | exact below_drewN hBB.drew _ | exact hBB.drew | exact hBB)⟩); (case measure => simp [intOf]; omega))))))
      · have h5' : decide (0 < x.arrears) = false := by simpa using h5
        by_cases h6 : 0 < x.rebate
        · have h9 := q9 h6
          have h9a : x.reserve ≤ a.a4 := by omega
          have h9b : a.a4 ≤ x.reserve := by omega
          have h9c : (x.reserve != a.a4) = false := by simp [h9]
          have h6' : decide (0 < x.rebate) = true := by simpa using h6
          clear q6 q9 h9
          (go_wp2; all_goals (first | (exfalso; refine undef_bool ?_; with_reducible assumption) | (go_quiet (fail); go_wp2; all_goals (first | (exfalso; refine undef_bool ?_; with_reducible assumption) | (go_roundw; (case rel => exact ⟨k + 1, E + y.profit, P + x.paid, R + x.rebate, by omega, rfl, rfl, rfl, by go_num, Lib.hid (by rw [H18.out]; exact HSUM2.out), by omega, (by first | exact below_drewN hBB _ | exact hBB.drew.drew | exact below_drewN hBB.drew _ | exact hBB.drew | exact hBB)⟩); (case measure => simp [intOf]; omega))))))
        · have h6' : decide (0 < x.rebate) = false := by simpa using h6
          clear q6 q9
          (go_wp2; all_goals (first | (exfalso; refine undef_bool ?_; with_reducible assumption) | (go_quiet (fail); go_wp2; all_goals (first | (exfalso; refine undef_bool ?_; with_reducible assumption) | (go_roundw; (case rel => exact ⟨k + 1, E + y.profit, P + x.paid, R + x.rebate, by omega, rfl, rfl, rfl, by go_num, Lib.hid (by rw [H18.out]; exact HSUM2.out), by omega, (by first | exact below_drewN hBB _ | exact hBB.drew.drew | exact below_drewN hBB.drew _ | exact hBB.drew | exact hBB)⟩); (case measure => simp [intOf]; omega))))))
    · obtain rfl : k = ys.length := by omega
      clear HE hP0 hP1 hR0 hR1
      have hP := Kd.C_below hP hB
      have hC := Kd.C_below hC hB
      have hA := kblk hB hA
      have hb := hw2.trans (hB.mono hw2.size)
      clear hw2 hB hb1 hb2
      have c0 := cell_of_row _ _ 0 _ _ _ hA; have c1 := cell_of_row _ _ 1 _ _ _ hA; have c2 := cell_of_row _ _ 2 _ _ _ hA; have c3 := cell_of_row _ _ 3 _ _ _ hA; have c4 := cell_of_row _ _ 4 _ _ _ hA; have c5 := cell_of_row _ _ 5 _ _ _ hA
      by_cases hz : ys.length = 0
      · have hz2 : ((ys.length : Int) == 0) = true := by simp [hz]
        have Hz := Lib.hid hz
        clear hz
        go_wp2_with (first | (go_at_call 8; refine (chk_yes a _ PA c pc ys ps H0.out Hps.out _ hC hP).mono ?_; rintro e w3 ⟨rfl, hb3⟩; have hA := kblk hb3 hA; have hC := Kd.C_below hC hb3; have hP := Kd.C_below hP hb3; have hb := hb.trans (hb3.mono hb.size); have c0 := cell_of_row _ _ 0 _ _ _ hA; have c1 := cell_of_row _ _ 1 _ _ _ hA; have c2 := cell_of_row _ _ 2 _ _ _ hA; have c3 := cell_of_row _ _ 3 _ _ _ hA; have c4 := cell_of_row _ _ 4 _ _ _ hA; have c5 := cell_of_row _ _ 5 _ _ _ hA) | (go_at_call 5; refine (alive_any _).mono ?_; rintro e w4 ⟨rfl, hb4⟩))
        go_ret
        exact ⟨rfl, hb.trans (hb4.mono hb.size)⟩
      · have hz1 : 0 < ys.length := by omega
        have hz2 : ((ys.length : Int) == 0) = false := by rw [beq_eq_false_iff_ne]; omega
        go_wp2_with (first | (go_at_call 8; refine (chk_yes a _ PA c pc ys ps H0.out Hps.out _ hC hP).mono ?_; rintro e w3 ⟨rfl, hb3⟩; have hA := kblk hb3 hA; have hC := Kd.C_below hC hb3; have hP := Kd.C_below hP hb3; have hb := hb.trans (hb3.mono hb.size); have c0 := cell_of_row _ _ 0 _ _ _ hA; have c1 := cell_of_row _ _ 1 _ _ _ hA; have c2 := cell_of_row _ _ 2 _ _ _ hA; have c3 := cell_of_row _ _ 3 _ _ _ hA; have c4 := cell_of_row _ _ 4 _ _ _ hA; have c5 := cell_of_row _ _ 5 _ _ _ hA) | (go_at_call 5; refine (alive_any _).mono ?_; rintro e w4 ⟨rfl, hb4⟩))
        clear hb3
        have hm0 : 0 ≤ f % (ys.length : Int) := Int.emod_nonneg _ (by omega)
        have hm1 : f % (ys.length : Int) < ys.length := Int.emod_lt_of_pos _ (by omega)
        have hn0 : 0 ≤ t % (ys.length : Int) := Int.emod_nonneg _ (by omega)
        have hn1 : t % (ys.length : Int) < ys.length := Int.emod_lt_of_pos _ (by omega)
        obtain ⟨i, hi⟩ : ∃ i : Nat, f % (ys.length : Int) = i := ⟨(f % (ys.length : Int)).toNat, by omega⟩
        obtain ⟨j, hj⟩ : ∃ j : Nat, t % (ys.length : Int) = j := ⟨(t % (ys.length : Int)).toNat, by omega⟩
        have hil : i < ys.length := by omega
        have hjl : j < ys.length := by omega
        have wf : IntKind.i64.wrap f = f := IntWalk.i64_in _ (by omega)
        have wt : IntKind.i64.wrap t = t := IntWalk.i64_in _ (by omega)
        have tf : f.tmod (ys.length : Int) = i := by rw [Int.tmod_eq_emod_of_nonneg hf0]; exact hi
        have tt : t.tmod (ys.length : Int) = j := by rw [Int.tmod_eq_emod_of_nonneg ht0]; exact hj
        go_region_held3 (fun _ => True) (trivial) (fail)
        clear wf wt tf tt
        have hbW : Below w3.heap.size w3 w3.drew := (Below.refl _ _).drew
        have hA := kblk hbW hA
        have hC := Kd.C_below hC hbW
        have hP := Kd.C_below hP hbW
        have hb := hb.trans (hbW.mono hb.size)
        clear hbW
        have HI := Lib.hid hi
        have HJ := Lib.hid hj
        have c0 := cell_of_row _ _ 0 _ _ _ hA; have c1 := cell_of_row _ _ 1 _ _ _ hA; have c2 := cell_of_row _ _ 2 _ _ _ hA; have c3 := cell_of_row _ _ 3 _ _ _ hA; have c4 := cell_of_row _ _ 4 _ _ _ hA; have c5 := cell_of_row _ _ 5 _ _ _ hA
        have b0 := Ha.out.b0
        have b1 := Ha.out.b1
        go_wp2
        clear hi hj hm0 hm1 hn0 hn1
        go_loop [22, 24] (fun g q => ∃ (J : Nat) (G : Int), q = .int .i64 J ∧ g = .int .i64 G ∧ i ≤ J ∧ (J ≤ i ∨ J ≤ j + 1) ∧ Hid (G = psum Pm.paid ps i J) ∧ 0 ≤ G ∧ G ≤ J * 8796093022208) (fun _ q => j + 1 - (intOf q).toNat)
        case atStart => exact ⟨i, 0, rfl, rfl, Nat.le_refl _, .inl (Nat.le_refl _), Lib.hid (psum_self _ _ _ _ (Nat.le_refl _)).symm, by omega, by omega⟩
        case round =>
          obtain ⟨J, G, rfl, rfl, hJ1, hJ2, HG, hG0, hG1⟩ := hrel
          by_cases hJj : J ≤ j
          · obtain ⟨x, hx⟩ : ∃ x, ps[J]? = some x := ⟨_, List.getElem?_eq_getElem (by omega)⟩
            obtain ⟨q1, q2, q3, q4⟩ := pay_bd Ha.out Hys.out hlen (by rw [Hps.out]; exact hx)
            obtain ⟨ad, hA', p0, p1, p2, p3, p4, p5⟩ := pm_get hP J x hx
            subst hA'
            have HX := Lib.hid hx
            clear hx
            go_wp2
            go_round
            case rel => exact ⟨J + 1, G + x.paid, by go_num, rfl, by omega, by omega, Lib.hid (by rw [psum_succ _ _ _ _ x hJ1 HX.out, HG.out]), by omega, by omega⟩
            case measure => simp [intOf]; omega
          · obtain ⟨i2, hi2⟩ : ∃ i2 : Nat, max 0 ((i : Int) - a.a5) = i2 := ⟨(max 0 ((i : Int) - a.a5)).toNat, by omega⟩
            have hi2' : i2 = i - a.a5.toNat := by omega
            have HI2 := Lib.hid hi2
            have HI2' := Lib.hid hi2'
            clear hi2'
            go_wp2
            clear hi2
            have hGw : ∀ D, D = psum Pm.due ps i2 (j + 1) → G ≤ D := by
              rintro D rfl
              rw [HG.out]
              have hw := window Ha.out ys Hys.out i j hjl
              rw [Hps.out, ← HI2'.out] at hw
              by_cases hij : i ≤ j
              · obtain rfl : J = j + 1 := by omega
                exact hw
              · obtain rfl : J = i := by omega
                rw [psum_self _ _ _ _ (by omega)] at hw ⊢
                have := due_nn Ha.out ys st0 Hys.out
                rw [Hps.out] at this
                exact psum_nn _ _ this _ _
            have hGn : i2 ≤ i := by have := HI2'.out; omega
            have HGw := Lib.hid hGw
            clear hGw
            go_loop [23, 25] (fun g q => ∃ (L : Nat) (D : Int), q = .int .i64 L ∧ g = .int .i64 D ∧ i2 ≤ L ∧ (L ≤ i2 ∨ L ≤ j + 1) ∧ Hid (D = psum Pm.due ps i2 L) ∧ 0 ≤ D ∧ D ≤ L * 8796093022208) (fun _ q => j + 1 - (intOf q).toNat)
            case atStart => exact ⟨i2, 0, rfl, rfl, Nat.le_refl _, .inl (Nat.le_refl _), Lib.hid (psum_self _ _ _ _ (Nat.le_refl _)).symm, by omega, by omega⟩
            case round =>
              obtain ⟨L, D, rfl, rfl, hL1, hL2, HD, hD0, hD1⟩ := hrel
              by_cases hLj : L ≤ j
              · obtain ⟨x, hx⟩ : ∃ x, ps[L]? = some x := ⟨_, List.getElem?_eq_getElem (by omega)⟩
                obtain ⟨q1, q2, q3, q4⟩ := pay_bd Ha.out Hys.out hlen (by rw [Hps.out]; exact hx)
                obtain ⟨ad, hA', p0, p1, p2, p3, p4, p5⟩ := pm_get hP L x hx
                subst hA'
                have HX := Lib.hid hx
                clear hx
                go_wp2
                go_round
                case rel => exact ⟨L + 1, D + x.due, by go_num, rfl, by omega, by omega, Lib.hid (by rw [psum_succ _ _ _ _ x hL1 HX.out, HD.out]), by omega, by omega⟩
                case measure => simp [intOf]; omega
              · have hGD : G ≤ D := by
                  by_cases hij : i2 ≤ j
                  · obtain rfl : L = j + 1 := by omega
                    exact HGw.out D HD.out
                  · have h1 : D = psum Pm.due ps i2 (j + 1) := by rw [HD.out, psum_self _ _ _ _ (by omega), psum_self _ _ _ _ (by omega)]
                    exact HGw.out D h1
                clear HG HD HGw
                have dGD : decide (D < G) = false := by simpa using hGD
                have hx := List.getElem?_eq_getElem (show i < ps.length by omega)
                generalize ps[i]'(by omega) = x at hx
                have hlx : ps.length ≤ 16 := by omega
                have hRE := R_empty kPm 32 w3.drew w3.drew.heap.size (Nat.le_refl _)
                have hBE : Below w3.drew.heap.size w3.drew (w3.drew.alloc (.cells #[] 32)) := (Below.refl _ _).alloc (Nat.le_refl _) _
                have hPE := Kd.C_below hP hBE
                have HX := Lib.hid hx
                clear hx
                go_wp2_with (at_builtin; go_loud (refine Kd.R_append_rows kPm (w0 := w3.drew) w3.drew.heap.size rfl (.tmp 254) (.tmp 255) 26 32 (.agg #[(Value.int .i64 0), (Value.int .i64 0), (Value.int .i64 0), (Value.int .i64 0), (Value.int .i64 0), (Value.int .i64 0)]) 48 rfl Try.underlying26 info32 rfl (by decide) (by decide) (.slice (some ⟨w3.drew.heap.size, 0, none⟩) 0 0) [] ps PA ys.length pc (fun _ => True) (fun _ => False) (by rfl) (by rfl) hRE hPE (fun _ _ h => h) (fun _ h => h.elim) (fun _ _ => trivial) hBE (by simp) (by simp; omega) ?_; intro v1 w5 hR5 hb5 _ _; rw [List.nil_append] at hR5; obtain ⟨g5, pc5, rfl, hg5, hg5', cs5, hcs5⟩ := Kd.R_form hR5 (by omega); obtain ⟨_, hpc5, hC5⟩ := Kd.R_reads' hR5; rw [hpl]; rw [hpl] at hC5 hpc5))
                have hA3 := hA
                have hC3 := hC
                have hP3 := hP
                have hb3 := hb
                have c0 := cell_of_row _ _ 0 _ _ _ hA; have c1 := cell_of_row _ _ 1 _ _ _ hA; have c2 := cell_of_row _ _ 2 _ _ _ hA; have c3 := cell_of_row _ _ 3 _ _ _ hA; have c4 := cell_of_row _ _ 4 _ _ _ hA; have c5 := cell_of_row _ _ 5 _ _ _ hA
                obtain ⟨r, hr⟩ : ∃ r : Nat, wh % 6 = r := ⟨(wh % 6).toNat, by omega⟩
                obtain ⟨d, hd⟩ : ∃ d : Nat, wh / 6 = d := ⟨(wh / 6).toNat, by omega⟩
                have hr6 : r < 6 := by omega
                have hd43 : d < 43 := by omega
                have hgb := get_bd Ha.out Hys.out hlen (by rw [Hps.out]; exact HX.out) r
                have ww : IntKind.i64.wrap wh = wh := IntWalk.i64_in _ (by omega)
                have wm : wh.tmod 6 = r := by rw [Int.tmod_eq_emod_of_nonneg hwh0]; exact hr
                have wd : wh.tdiv 6 = d := by rw [Int.tdiv_eq_ediv_of_nonneg hwh0]; exact hd
                have ws : IntKind.i64.wrap (1 + (d : Int)) = 1 + d := IntWalk.i64_in _ (by omega)
                have wa : IntKind.i64.wrap (x.get r + (1 + (d : Int))) = x.get r + (1 + d) := IntWalk.i64_in _ (by omega)
                have hidx := idx39 g5 (i * 6) r hr6
                have hcr : w5.cell? ⟨g5, i * 6 + r, none⟩ = some ((Value.int .i64 (x.get r))) := by
                  obtain ⟨ad, e, hc⟩ := rec_get hC5 i x HX.out
                  cases e
                  have h1 := hc r _ (pm_cells_get x r hr6)
                  rwa [add_zero0] at h1
                have hfr := fun q => free_of w5 g5 q _ _ hcs5
                clear hr hd
                go_region
                clear ww wm wd ws wa hidx hcr hfr
                obtain ⟨W7, hW7⟩ : ∃ W7, W7 = (w5.setCell ⟨g5, i * 6 + r, none⟩ (.int .i64 (x.get r + (1 + d)))).drew := ⟨_, rfl⟩
                have hb7 : Below w3.drew.heap.size w3.drew W7 := by rw [hW7]; exact (hb5.setCell (p := ⟨g5, i * 6 + r, none⟩) hg5 _).drew
                have hC7 : Kd.C kPm W7 (some ⟨g5, 0, none⟩) ys.length (ps.set i (x.put (x.get r + (1 + d)) r)) := by
                  rw [hW7]
                  exact Kd.C_drew (rec_store hC5 hcs5 i r x _ HX.out hr6 _ (pm_put_cells _ _ _ hr6))
                have hxne := pm_put_ne x (x.get r + (1 + d)) r hr6 (by omega)
                rw [← hW7]
                clear hW7
                have hA := kblk hb7 hA3
                have hC := Kd.C_below hC3 hb7
                have hP := Kd.C_below hP3 hb7
                have hb := hb3.trans (hb7.mono hb3.size)
                clear hA3 hC3 hP3 hb3 hb7 hC5 hcs5 hb5 hgb
                generalize x.put (x.get r + (1 + d)) r = x' at hC7 hxne
                have c0 := cell_of_row _ _ 0 _ _ _ hA; have c1 := cell_of_row _ _ 1 _ _ _ hA; have c2 := cell_of_row _ _ 2 _ _ _ hA; have c3 := cell_of_row _ _ 3 _ _ _ hA; have c4 := cell_of_row _ _ 4 _ _ _ hA; have c5 := cell_of_row _ _ 5 _ _ _ hA
                go_wp2_with (go_at_call 8; go_loud (refine (chk_bad a _ _ c pc5 ys ps H0.out Hps.out i x x' HX.out hxne _ hC hC7).mono ?_; rintro e w8 ⟨rfl, hb8⟩; have hA := kblk hb8 hA; have hC := Kd.C_below hC hb8; have hP := Kd.C_below hP hb8; have hb := hb.trans (hb8.mono hb.size); clear hC7; have c0 := cell_of_row _ _ 0 _ _ _ hA; have c1 := cell_of_row _ _ 1 _ _ _ hA; have c2 := cell_of_row _ _ 2 _ _ _ hA; have c3 := cell_of_row _ _ 3 _ _ _ hA; have c4 := cell_of_row _ _ 4 _ _ _ hA; have c5 := cell_of_row _ _ 5 _ _ _ hA))
                obtain ⟨pa, hpa, _⟩ := rec_get hP i x HX.out
                subst hpa
                have hi0 : (0 : Int) ≤ (i : Int) := by omega
                have hipc : (i : Int) ≤ (pc : Int) := by omega
                have HCH := Lib.hid (chk_few a A (some pa) c pc ys ps H0.out Hps.out i hil w8.drew (Kd.C_drew hC) (Kd.C_drew hP))
                have hA9 : w8.drew.heap[w.heap.size]? = some (.cells #[(Value.int .i64 a.a0), (Value.int .i64 a.a1), (Value.int .i64 a.a2), (Value.int .i64 a.a3), (Value.int .i64 a.a4), (Value.int .i64 a.a5)] 23 (0, 0)) := hA
                have hC9 := Kd.C_drew hC
                have hP9 := Kd.C_drew hP
                have hb9 : Below w.heap.size w w8.drew := hb.drew
                go_region_held3 (fun W => W.cell? ⟨w.heap.size, 0, none⟩ = some ((Value.int .i64 a.a0)) ∧ W.cell? ⟨w.heap.size, 1, none⟩ = some ((Value.int .i64 a.a1)) ∧ W.cell? ⟨w.heap.size, 2, none⟩ = some ((Value.int .i64 a.a2)) ∧ W.cell? ⟨w.heap.size, 3, none⟩ = some ((Value.int .i64 a.a3)) ∧ W.cell? ⟨w.heap.size, 4, none⟩ = some ((Value.int .i64 a.a4)) ∧ W.cell? ⟨w.heap.size, 5, none⟩ = some ((Value.int .i64 a.a5))) (go_keep) ((go_at_call 8; go_loud (refine Calls.mono HCH.out ?_; rintro e w9 ⟨rfl, hbn⟩; have hA := kblk hbn hA9; have hC := Kd.C_below hC9 hbn; have hP := Kd.C_below hP9 hbn; have hb := hb9.trans (hbn.mono hb9.size); have c0 := cell_of_row _ _ 0 _ _ _ hA; have c1 := cell_of_row _ _ 1 _ _ _ hA; have c2 := cell_of_row _ _ 2 _ _ _ hA; have c3 := cell_of_row _ _ 3 _ _ _ hA; have c4 := cell_of_row _ _ 4 _ _ _ hA; have c5 := cell_of_row _ _ 5 _ _ _ hA)))
                clear HCH hA9 hC9 hP9 hb9 hbn
                go_wp2
                have hsz9 : w.heap.size < w9.heap.size := bk_lt hA
                have hw9 : w9.drew.heap.size = w9.heap.size := rfl
                have hA9 := hA
                have hl1 : (ps ++ [pm0]).length = ys.length + 1 := by rw [List.length_append, hpl]; rfl
                go_region_held3 (fun W => W.cell? ⟨w.heap.size, 0, none⟩ = some ((Value.int .i64 a.a0)) ∧ W.cell? ⟨w.heap.size, 1, none⟩ = some ((Value.int .i64 a.a1)) ∧ W.cell? ⟨w.heap.size, 2, none⟩ = some ((Value.int .i64 a.a2)) ∧ W.cell? ⟨w.heap.size, 3, none⟩ = some ((Value.int .i64 a.a3)) ∧ W.cell? ⟨w.heap.size, 4, none⟩ = some ((Value.int .i64 a.a4)) ∧ W.cell? ⟨w.heap.size, 5, none⟩ = some ((Value.int .i64 a.a5))) (go_keep) (first | ((refine rows_step kPm w9.heap.size (by rfl) (.tmp 310) (.tmp 311) 26 32 (.agg #[(Value.int .i64 0), (Value.int .i64 0), (Value.int .i64 0), (Value.int .i64 0), (Value.int .i64 0), (Value.int .i64 0)]) 48 (by rfl) Try.underlying26 info32 rfl (by decide) (by decide) _ [] ps (some pa) ys.length pc (fun _ => True) (by rfl) (by rfl) (R_empty2 kPm 32 _ w9.heap.size _ ?_ ?_) ?_ (fun _ _ h => h) (fun _ _ => trivial) ?_ ?_ ?_; (· (first | exact bk_newd _ _ _ (by simp) | exact bk_allocd (bk_newn _ _ _ (by simp)) _)); (· (first | exact Nat.le_refl _ | omega)); (· (first | exact Kd.C_drew (Kd.C_alloc hP _) | exact Kd.C_drew (Kd.C_alloc (Kd.C_alloc hP _) _))); (· (first | (simp; done) | (simp; omega))); (· (simp; omega)); intro v1 w10 hR10 hg10; rw [List.nil_append] at hR10; obtain ⟨g10, pc10, rfl, hq10, hq10', cs10, hcs10⟩ := Kd.R_form hR10 (by omega); have hR10p := hR10; have hR10 : Kd.R kPm 32 w10 w9.heap.size (fun _ => True) (.slice (some ⟨g10, 0, none⟩) ys.length pc10) ps := (by rw [← hpl]; exact hR10); have hb10 : Below w9.heap.size w9 w10 := (by first | exact below_own (((Below.refl _ _).alloc (Nat.le_refl _) _).drew) hg10 (by simp) (Nat.le_refl _) | exact below_own ((((Below.refl _ _).alloc (Nat.le_refl _) _).alloc (by simp) _).drew) hg10 (by simp; omega) (by omega)); have hz10 := own_far _ _ _ _ _ hg10; have HZ := Lib.hid hz10; clear hz10; have hA := kblk hb10 hA; have c0 := cell_of_row _ _ 0 _ _ _ hA; have c1 := cell_of_row _ _ 1 _ _ _ hA; have c2 := cell_of_row _ _ 2 _ _ _ hA; have c3 := cell_of_row _ _ 3 _ _ _ hA; have c4 := cell_of_row _ _ 4 _ _ _ hA; have c5 := cell_of_row _ _ 5 _ _ _ hA)) | (((first | (refine rows_step kPm w9.heap.size (by rfl) (.tmp 312) (.tmp 314) 26 32 (.agg #[(Value.int .i64 0), (Value.int .i64 0), (Value.int .i64 0), (Value.int .i64 0), (Value.int .i64 0), (Value.int .i64 0)]) 48 (by rfl) Try.underlying26 info32 rfl (by decide) (by decide) (.slice (some ⟨g10, 0, none⟩) ys.length pc10) ps [pm0] (some ⟨w10.heap.size, 0, none⟩) 1 1 (fun _ => True) (by rfl) (by rfl) ?_ (box1 ?_) (fun _ _ h => h) (fun _ _ => trivial) ?_ ?_ ?_) | (refine rows_step (W := w10) kPm w9.heap.size (by rfl) (.tmp 312) (.tmp 314) 26 32 (.agg #[(Value.int .i64 0), (Value.int .i64 0), (Value.int .i64 0), (Value.int .i64 0), (Value.int .i64 0), (Value.int .i64 0)]) 48 (by rfl) Try.underlying26 info32 rfl (by decide) (by decide) (.slice (some ⟨g10, 0, none⟩) ps.length pc10) ps [pm0] (some ⟨w9.heap.size, 0, none⟩) 1 1 (fun _ => True) (by rfl) (by rfl) ?_ (box1 ?_) (fun _ _ h => h) (fun _ _ => trivial) ?_ ?_ ?_) | (refine rows_step (W := w10) kPm w9.heap.size (by rfl) (.tmp 312) (.tmp 314) 26 32 (.agg #[(Value.int .i64 0), (Value.int .i64 0), (Value.int .i64 0), (Value.int .i64 0), (Value.int .i64 0), (Value.int .i64 0)]) 48 (by rfl) Try.underlying26 info32 rfl (by decide) (by decide) (.slice (some ⟨g10, 0, none⟩) ps.length pc10) ps [pm0] (some ⟨w9.heap.size + 1, 0, none⟩) 1 1 (fun _ => True) (by rfl) (by rfl) ?_ (box1 ?_) (fun _ _ h => h) (fun _ _ => trivial) ?_ ?_ ?_)); (· (first | exact hR10 | exact hR10p | exact Kd.R_drew (Kd.R_alloc hR10 _) | exact Kd.R_alloc hR10 _)); (· (first | exact bk_newd _ _ _ (by simp) | exact bk_newn _ _ _ (by simp) | exact HZ.out _ _ (bk_newd _ _ _ (by simp)) (by omega) | exact HZ.out _ _ (bk_allocd (bk_newn _ _ _ (by simp)) _) (by omega))); (· (first | exact hb10.size | (have := hb10.size; simp; omega))); (· (first | omega | (simp; omega))); intro v2 w11 hR11 hg11; obtain ⟨g11, pc11, rfl, hq11, hq11', cs11, hcs11⟩ := Kd.R_form hR11 (by simp); have hb11 : Below w9.heap.size w9 w11 := (by first | exact below_own hb10 hg11 hb10.size hq10 | exact below_own (hb10.alloc hb10.size _) hg11 (by have := hb10.size; simp; omega) hq10 | exact below_own (hb10.alloc hb10.size _).drew hg11 (by have := hb10.size; simp; omega) hq10); obtain ⟨_, _, hP11⟩ := Kd.R_reads' hR11; rw [hl1] at hP11; have hA11 := kblk hb11 hA9; have hC11 := Kd.C_below hC hb11; have hA := hA11; have c0 := cell_of_row _ _ 0 _ _ _ hA; have c1 := cell_of_row _ _ 1 _ _ _ hA; have c2 := cell_of_row _ _ 2 _ _ _ hA; have c3 := cell_of_row _ _ 3 _ _ _ hA; have c4 := cell_of_row _ _ 4 _ _ _ hA; have c5 := cell_of_row _ _ 5 _ _ _ hA)) | ((go_at_call 8; go_loud (refine Calls.mono (chk_more a A (some ⟨g11, 0, none⟩) c pc11 ys ps pm0 H0.out Hps.out w11 hC11 hP11) ?_; rintro e w12 ⟨rfl, hb12⟩; have hA12 := kblk hb12 hA11; have hb13 := (hb.trans (hb11.mono hb.size)).trans (hb12.mono (Nat.le_trans hb.size hb11.size)); have hA := hA12; have c0 := cell_of_row _ _ 0 _ _ _ hA; have c1 := cell_of_row _ _ 1 _ _ _ hA; have c2 := cell_of_row _ _ 2 _ _ _ hA; have c3 := cell_of_row _ _ 3 _ _ _ hA; have c4 := cell_of_row _ _ 4 _ _ _ hA; have c5 := cell_of_row _ _ 5 _ _ _ hA))))
                all_goals go_wp2_with (go_at_call 5; refine (alive_any _).mono ?_; rintro e w14 ⟨rfl, hb14⟩)
                all_goals
                  go_ret
                  exact ⟨by simp, hb13.trans (hb14.mono hb13.size)⟩
end Go.Proofs.Ytahfmaocihlcnaa
