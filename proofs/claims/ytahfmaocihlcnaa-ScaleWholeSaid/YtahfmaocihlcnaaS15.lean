import Derived.Test.YtahfmaocihlcnaaS14
set_option linter.unusedVariables false
set_option linter.unusedSimpArgs false
namespace Go.Proofs.Ytahfmaocihlcnaa
open Go.RowKit Go.Shelf GW Go.Proofs.YtahfmaocihlcnaaW.PrintWords Go.Proofs.YtahfmaocihlcnaaW.PrintLast Go.Proofs.YtahfmaocihlcnaaW.PrintMore
attribute [local go_sem] max_ii min_ii

theorem al_sa (w : World) : Calls Try.prog 12 #[] w fun e w' => ∃ b1 b2, e = .returned (.tuple #[.agg #[(Value.int .i64 48), (Value.int .i64 1000), (Value.int .i64 4), (Value.int .i64 25), (Value.int .i64 500), (Value.int .i64 1)], .slice (some ⟨b1, 0, none⟩) 5 5, .slice (some ⟨b2, 0, none⟩) 5 5]) ∧
    Kd.C kYr w' (some ⟨b1, 0, none⟩) 5 saYrs ∧ Kd.C kPm w' (some ⟨b2, 0, none⟩) 5 saPms ∧ Below w.heap.size w w' := sample_any w
theorem al_r1 (w : World) : Calls Try.prog 13 #[.agg #[(Value.int .i64 48), (Value.int .i64 1000), (Value.int .i64 4), (Value.int .i64 25), (Value.int .i64 500), (Value.int .i64 1)], (Value.int .i64 45)] w fun e w' => e = .returned (.tuple #[(Value.int .i64 1000), (Value.int .i64 0)]) ∧ Below w.heap.size w w' := by
  have := rate_any saAct 45 w; rw [sa_r1] at this; exact this
theorem al_r2 (w : World) : Calls Try.prog 13 #[.agg #[(Value.int .i64 48), (Value.int .i64 1000), (Value.int .i64 4), (Value.int .i64 25), (Value.int .i64 500), (Value.int .i64 1)], (Value.int .i64 53)] w fun e w' => e = .returned (.tuple #[(Value.int .i64 950), (Value.int .i64 0)]) ∧ Below w.heap.size w w' := by
  have := rate_any saAct 53 w; rw [sa_r2] at this; exact this
theorem al_de (w : World) : Calls Try.prog 14 #[.agg #[(Value.int .i64 48), (Value.int .i64 1000), (Value.int .i64 4), (Value.int .i64 25), (Value.int .i64 500), (Value.int .i64 1)], (Value.int .i64 950)] w fun e w' => e = .returned (.tuple #[(Value.int .i64 56), (Value.int .i64 0)]) ∧ Below w.heap.size w w' := by
  refine Calls.mono (dear_any saAct sa_ok 950 (by decide) (by decide) w) ?_
  rintro e w' ⟨⟨n, h0, h1, hlo, hhi, rfl⟩, hb⟩
  have := sa_dear h0 h1 hlo hhi
  subst this
  exact ⟨rfl, hb⟩
theorem al_run (b : Nat) (w : World) (h : Kd.C kYr w (some ⟨b, 0, none⟩) 5 saYrs) : Calls Try.prog 6 #[.agg #[(Value.int .i64 48), (Value.int .i64 1000), (Value.int .i64 4), (Value.int .i64 25), (Value.int .i64 500), (Value.int .i64 1)], .slice (some ⟨b, 0, none⟩) 5 5] w fun e w' => ∃ A c, e = .returned (.tuple #[.slice A 5 c, (Value.int .i64 0)]) ∧ Kd.C kPm w' A 5 saPms ∧ Below w.heap.size w w' := by
  refine Calls.mono (run_any saAct (some ⟨b, 0, none⟩) 5 saYrs w h (by decide)) ?_
  rintro e w' ⟨v, rfl, hR, hb⟩
  rw [sa_err, if_pos rfl, sa_run] at hR
  obtain ⟨A, c, rfl, _, hC⟩ := Kd.R_reads hR
  exact ⟨A, c, by rw [sa_err]; rfl, hC, hb⟩
theorem al_chk (b b2 : Nat) (w : World) (h : Kd.C kYr w (some ⟨b, 0, none⟩) 5 saYrs) (hp : Kd.C kPm w (some ⟨b2, 0, none⟩) 5 saPms) : Calls Try.prog 8 #[.agg #[(Value.int .i64 48), (Value.int .i64 1000), (Value.int .i64 4), (Value.int .i64 25), (Value.int .i64 500), (Value.int .i64 1)], .slice (some ⟨b, 0, none⟩) 5 5, .slice (some ⟨b2, 0, none⟩) 5 5] w fun e w' =>
    e = .returned (.tuple #[(Value.int .i64 5), (Value.int .i64 0)]) ∧ Below w.heap.size w w' := by
  refine Calls.mono (check_any saAct (some ⟨b, 0, none⟩) (some ⟨b2, 0, none⟩) 5 5 saYrs saPms w h hp) ?_
  rintro e w' ⟨⟨i, er, rfl, hch⟩, hb⟩
  rw [sa_err, if_pos rfl, sa_run] at hch
  refine ⟨?_, hb⟩
  rcases hch with ⟨h1, _, h2⟩ | ⟨h1, _, h2⟩
  · rcases h2 with ⟨h2, _⟩ | ⟨x, y, hx, hy, hne, _⟩
    · exact absurd h1 (by rw [h2]; decide)
    · rw [hx] at hy
      exact absurd (Option.some.inj hy) hne
  · rcases h2 with ⟨h2, _⟩ | ⟨h2, h3⟩
    · exact absurd h2 (by rw [h1]; decide)
    · rw [h3, h1]; rfl
theorem al_need (b : Nat) (w : World) (h : Kd.C kYr w (some ⟨b, 0, none⟩) 5 saYrs) : Calls Try.prog 11 #[.agg #[(Value.int .i64 48), (Value.int .i64 1000), (Value.int .i64 4), (Value.int .i64 25), (Value.int .i64 500), (Value.int .i64 1)], .slice (some ⟨b, 0, none⟩) 5 5, (Value.int .i64 4)] w fun e w' => e = .returned (.tuple #[(Value.int .i64 1620), (Value.int .i64 0)]) ∧ Below w.heap.size w w' := by
  have := needed_any saAct (some ⟨b, 0, none⟩) 5 saYrs 4 w h (by decide) (by decide)
  rw [sa_need] at this; exact this
theorem al_pay (B : Option Addr) (b2 d : Nat) (w : World) (h : Kd.C kPm w (some ⟨b2, 0, none⟩) 5 saPms) (h2 : Kd.C kPm w B 5 saPms) : Calls Try.prog 10 #[.slice (some ⟨b2, 0, none⟩) 5 5, .slice B 5 d] w fun e w' => e = .returned (.bool true) ∧ Below w.heap.size w w' := by
  have := payments_any (some ⟨b2, 0, none⟩) B 5 d saPms saPms w h h2
  rw [decide_eq_true (rfl : saPms = saPms)] at this; exact this

set_option maxHeartbeats 4000000 in
theorem alive_any (w : World) : Calls Try.prog 5 #[] w fun e w' => e = .returned (.bool true) ∧ Below w.heap.size w w' := by
  go_enter Try.func5, Try.ntmps5
  go_wp2_with (first | (go_at_call 12; refine (al_sa _).mono ?_; rintro e w1 ⟨b1, b2, rfl, hY, hP, hb⟩; have hA := bk_new w1 (.cells #[(Value.int .i64 48), (Value.int .i64 1000), (Value.int .i64 4), (Value.int .i64 25), (Value.int .i64 500), (Value.int .i64 1)] 23); have hY := Kd.C_alloc hY (.cells #[(Value.int .i64 48), (Value.int .i64 1000), (Value.int .i64 4), (Value.int .i64 25), (Value.int .i64 500), (Value.int .i64 1)] 23); have hP := Kd.C_alloc hP (.cells #[(Value.int .i64 48), (Value.int .i64 1000), (Value.int .i64 4), (Value.int .i64 25), (Value.int .i64 500), (Value.int .i64 1)] 23); have hb := hb.alloc hb.size (.cells #[(Value.int .i64 48), (Value.int .i64 1000), (Value.int .i64 4), (Value.int .i64 25), (Value.int .i64 500), (Value.int .i64 1)] 23)) | (go_at_call 13; (with_reducible refine (al_r1 _).mono ?_); rintro e w2 ⟨rfl, hbn⟩; have hb := hb.trans (hbn.mono hb.size); have hY := Kd.C_below hY hbn; have hP := Kd.C_below hP hbn; have hA := kblk hbn hA; have c0 := cell_of_row _ _ 0 _ _ _ hA; have c1 := cell_of_row _ _ 1 _ _ _ hA; have c2 := cell_of_row _ _ 2 _ _ _ hA; have c3 := cell_of_row _ _ 3 _ _ _ hA; have c4 := cell_of_row _ _ 4 _ _ _ hA; have c5 := cell_of_row _ _ 5 _ _ _ hA) | (go_at_call 13; (with_reducible refine (al_r2 _).mono ?_); rintro e w3 ⟨rfl, hbn⟩; have hb := hb.trans (hbn.mono hb.size); have hY := Kd.C_below hY hbn; have hP := Kd.C_below hP hbn; have hA := kblk hbn hA; have c0 := cell_of_row _ _ 0 _ _ _ hA; have c1 := cell_of_row _ _ 1 _ _ _ hA; have c2 := cell_of_row _ _ 2 _ _ _ hA; have c3 := cell_of_row _ _ 3 _ _ _ hA; have c4 := cell_of_row _ _ 4 _ _ _ hA; have c5 := cell_of_row _ _ 5 _ _ _ hA) | (go_at_call 14; (with_reducible refine (al_de _).mono ?_); rintro e w4 ⟨rfl, hbn⟩; have hb := hb.trans (hbn.mono hb.size); have hY := Kd.C_below hY hbn; have hP := Kd.C_below hP hbn; have hA := kblk hbn hA; have c0 := cell_of_row _ _ 0 _ _ _ hA; have c1 := cell_of_row _ _ 1 _ _ _ hA; have c2 := cell_of_row _ _ 2 _ _ _ hA; have c3 := cell_of_row _ _ 3 _ _ _ hA; have c4 := cell_of_row _ _ 4 _ _ _ hA; have c5 := cell_of_row _ _ 5 _ _ _ hA) | (go_at_call 6; (with_reducible refine (al_run _ _ hY).mono ?_); rintro e w5 ⟨A, c, rfl, hQ, hbn⟩; have hb := hb.trans (hbn.mono hb.size); have hY := Kd.C_below hY hbn; have hP := Kd.C_below hP hbn; have hA := kblk hbn hA; have c0 := cell_of_row _ _ 0 _ _ _ hA; have c1 := cell_of_row _ _ 1 _ _ _ hA; have c2 := cell_of_row _ _ 2 _ _ _ hA; have c3 := cell_of_row _ _ 3 _ _ _ hA; have c4 := cell_of_row _ _ 4 _ _ _ hA; have c5 := cell_of_row _ _ 5 _ _ _ hA) | (go_at_call 8; (with_reducible refine (al_chk _ _ _ hY hP).mono ?_); rintro e w6 ⟨rfl, hbn⟩; have hQ := Kd.C_below hQ hbn; have hb := hb.trans (hbn.mono hb.size); have hY := Kd.C_below hY hbn; have hP := Kd.C_below hP hbn; have hA := kblk hbn hA; have c0 := cell_of_row _ _ 0 _ _ _ hA; have c1 := cell_of_row _ _ 1 _ _ _ hA; have c2 := cell_of_row _ _ 2 _ _ _ hA; have c3 := cell_of_row _ _ 3 _ _ _ hA; have c4 := cell_of_row _ _ 4 _ _ _ hA; have c5 := cell_of_row _ _ 5 _ _ _ hA) | (go_at_call 11; (with_reducible refine (al_need _ _ hY).mono ?_); rintro e w7 ⟨rfl, hbn⟩; have hQ := Kd.C_below hQ hbn; have hb := hb.trans (hbn.mono hb.size); have hY := Kd.C_below hY hbn; have hP := Kd.C_below hP hbn; have hA := kblk hbn hA; have c0 := cell_of_row _ _ 0 _ _ _ hA; have c1 := cell_of_row _ _ 1 _ _ _ hA; have c2 := cell_of_row _ _ 2 _ _ _ hA; have c3 := cell_of_row _ _ 3 _ _ _ hA; have c4 := cell_of_row _ _ 4 _ _ _ hA; have c5 := cell_of_row _ _ 5 _ _ _ hA) | (go_at_call 10; (with_reducible refine (al_pay _ _ _ _ hP hQ).mono ?_); rintro e w8 ⟨rfl, hbn⟩; have hb := hb.trans (hbn.mono hb.size); have hY := Kd.C_below hY hbn; have hP := Kd.C_below hP hbn; have hA := kblk hbn hA; have c0 := cell_of_row _ _ 0 _ _ _ hA; have c1 := cell_of_row _ _ 1 _ _ _ hA; have c2 := cell_of_row _ _ 2 _ _ _ hA; have c3 := cell_of_row _ _ 3 _ _ _ hA; have c4 := cell_of_row _ _ 4 _ _ _ hA; have c5 := cell_of_row _ _ 5 _ _ _ hA))
  go_ret
  exact ⟨rfl, hb⟩
end Go.Proofs.Ytahfmaocihlcnaa
