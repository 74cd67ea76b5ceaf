import Derived.Test.YtahfmaocihlcnaaS6
set_option linter.unusedVariables false
set_option linter.unusedSimpArgs false
namespace Go.Proofs.Ytahfmaocihlcnaa
open Go.RowKit Go.Shelf GW Go.Proofs.YtahfmaocihlcnaaW.PrintWords Go.Proofs.YtahfmaocihlcnaaW.PrintLast Go.Proofs.YtahfmaocihlcnaaW.PrintMore
attribute [local go_sem] max_ii min_ii

def badB (y : Yr) : Bool := !decide (0 ≤ y.price ∧ y.price ≤ 100000) || !decide (0 ≤ y.cap ∧ y.cap ≤ 1099511627776) || !decide (-1099511627776 ≤ y.profit ∧ y.profit ≤ 1099511627776)
theorem badB_iff (y : Yr) : badB y = false ↔ YrOk y := by
  unfold badB
  simp only [Bool.or_eq_false_iff, Bool.not_eq_false', decide_eq_true_eq]
  exact ⟨fun ⟨⟨⟨h0, h1⟩, h2, h3⟩, h4, h5⟩ => ⟨h0, h1, h2, h3, h4, h5⟩, fun h => ⟨⟨⟨h.p0, h.p1⟩, h.c0, h.c1⟩, h.f0, h.f1⟩⟩

set_option maxHeartbeats 1000000 in
theorem index_any (A : Option Addr) (c : Nat) (ys : List Yr) (w : World) (hC : Kd.C kYr w A ys.length ys) :
    Calls Try.prog 31 #[.slice A ys.length c, .func (.func 25) #[] #[]] w fun e w' => (∃ i : Int, e = .returned (.int .i64 i) ∧ (0 ≤ i ↔ ys.any badB = true)) ∧ Below w.heap.size w w' := by
  have hm := hC.2.1
  go_enter Try.func31, Try.ntmps31
  go_wp2
  go_loopw [8] (fun i wr => ∃ k : Nat, k ≤ ys.length ∧ i = .int .i64 k ∧ (∀ y ∈ ys.take k, badB y = false) ∧ Below w.heap.size w wr) (fun i _ => ys.length - (intOf i).toNat)
  case atStart => exact ⟨0, Nat.zero_le _, rfl, by simp, Below.refl _ _⟩
  case round =>
    obtain ⟨k, hk, rfl, hno, hb⟩ := hrel
    by_cases hlt : k < ys.length
    · obtain ⟨y, hy⟩ : ∃ y, ys[k]? = some y := ⟨_, List.getElem?_eq_getElem hlt⟩
      obtain ⟨ad, hA, c0, c1, c2⟩ := yr_get (Kd.C_below hC hb) k y hy
      subst hA
      have htk : ys.take (k + 1) = ys.take k ++ [y] := by rw [List.take_add_one, hy]; rfl
      have hmem : y ∈ ys := List.mem_of_getElem? hy
      cases hbad : badB y with
      | true =>
        have Hb := Lib.hid hbad
        clear hbad
        go_wp2_with (go_at_call 25; refine (bad_any y _).mono ?_; rintro e w1 ⟨rfl, hb1⟩; rw [show (!decide (0 ≤ y.price ∧ y.price ≤ 100000) || !decide (0 ≤ y.cap ∧ y.cap ≤ 1099511627776) || !decide (-1099511627776 ≤ y.profit ∧ y.profit ≤ 1099511627776)) = true from Hb.out])
        go_ret
        exact ⟨⟨k, rfl, ⟨fun _ => List.any_eq_true.2 ⟨y, hmem, Hb.out⟩, fun _ => by omega⟩⟩, hb.trans (hb1.mono hb.size)⟩
      | false =>
        have Hb := Lib.hid hbad
        clear hbad
        go_wp2_with (go_at_call 25; refine (bad_any y _).mono ?_; rintro e w1 ⟨rfl, hb1⟩; rw [show (!decide (0 ≤ y.price ∧ y.price ≤ 100000) || !decide (0 ≤ y.cap ∧ y.cap ≤ 1099511627776) || !decide (-1099511627776 ≤ y.profit ∧ y.profit ≤ 1099511627776)) = false from Hb.out])
        go_roundw
        case rel => exact ⟨k + 1, by omega, by go_num, fun z hz => by
          rw [htk, List.mem_append] at hz
          rcases hz with hz | hz
          · exact hno z hz
          · rw [List.mem_singleton.1 hz]; exact Hb.out, hb.trans (hb1.mono hb.size)⟩
        case measure => simp [intOf]; omega
    · obtain rfl : k = ys.length := by omega
      go_wp2
      go_ret
      refine ⟨⟨-1, rfl, ⟨fun h => by omega, fun h => ?_⟩⟩, hb⟩
      obtain ⟨y, hy, hby⟩ := List.any_eq_true.1 h
      rw [hno y (by rw [List.take_length]; exact hy)] at hby
      cases hby

theorem contains_any (A : Option Addr) (c : Nat) (ys : List Yr) (w : World) (hC : Kd.C kYr w A ys.length ys) :
    Calls Try.prog 26 #[.slice A ys.length c, .func (.func 25) #[] #[]] w fun e w' => e = .returned (.bool (ys.any badB)) ∧ Below w.heap.size w w' := by
  go_enter Try.func26, Try.ntmps26
  go_wp2_with (go_at_call 31; refine (index_any A c ys _ hC).mono ?_; rintro e w1 ⟨⟨i, rfl, hi⟩, hb1⟩; have Hi := Lib.hid hi; clear hi)
  go_ret
  refine ⟨?_, hb1⟩
  cases h : ys.any badB with
  | true =>
    rw [decide_eq_true (Hi.out.2 h)]
    rfl
  | false =>
    have : ¬ 0 ≤ i := fun h' => by rw [Hi.out.1 h'] at h; cases h
    rw [decide_eq_false this]
    rfl

/-- The error of an act and years. -/
def errOf (a : Ac) (ys : List Yr) : Int := if a.okB = true then if 16 < ys.length then 3 else if ys.any badB = true then 2 else 0 else 1
theorem errOf_zero {a : Ac} {ys : List Yr} (h : errOf a ys = 0) : a.ok ∧ ys.length ≤ 16 ∧ ∀ y ∈ ys, YrOk y := by
  unfold errOf at h
  by_cases h1 : a.okB = true
  · rw [if_pos h1] at h
    by_cases h2 : 16 < ys.length
    · rw [if_pos h2] at h; omega
    · rw [if_neg h2] at h
      by_cases h3 : ys.any badB = true
      · rw [if_pos h3] at h; omega
      · refine ⟨a.okB_iff.1 h1, by omega, fun y hy => (badB_iff y).1 ?_⟩
        cases hb : badB y with
        | false => rfl
        | true => exact absurd (List.any_eq_true.2 ⟨y, hy, hb⟩) h3
  · rw [if_neg h1] at h; omega

theorem errorOf_any (a : Ac) (A : Option Addr) (c : Nat) (ys : List Yr) (w : World) (hC : Kd.C kYr w A ys.length ys) :
    Calls Try.prog 15 #[a.v, .slice A ys.length c] w fun e w' => e = .returned (.int .i64 (errOf a ys)) ∧ Below w.heap.size w w' := by
  have hb0 : Below w.heap.size w (w.alloc (.cells #[.int .i64 a.a0, .int .i64 a.a1, .int .i64 a.a2, .int .i64 a.a3, .int .i64 a.a4, .int .i64 a.a5] 23)) := (Below.refl _ w).alloc (Nat.le_refl _) _
  unfold errOf
  have hA1 := fun w => isAct_any a w
  unfold Ac.v at *
  generalize h0 : a.okB = b0 at *
  generalize h1 : ys.any badB = b1
  have H1 := Lib.hid h1
  have HA := Lib.hid hA1
  clear h0 h1 hA1
  go_enter Try.func15, Try.ntmps15
  cases b0 with
  | false =>
    go_wp2_with (go_at_call 21; refine (HA.out _).mono ?_; rintro e w1 ⟨rfl, hb1⟩)
    go_ret
    exact ⟨rfl, hb0.trans (hb1.mono hb0.size)⟩
  | true =>
    by_cases h16 : 16 < ys.length
    · go_wp2_with (go_at_call 21; refine (HA.out _).mono ?_; rintro e w1 ⟨rfl, hb1⟩)
      go_ret
      exact ⟨by simp [h16], hb0.trans (hb1.mono hb0.size)⟩
    · cases b1
      all_goals
        go_wp2_with (first | (go_at_call 21; refine (HA.out _).mono ?_; rintro e w1 ⟨rfl, hb1⟩) | (go_at_call 26; refine (contains_any A c ys _ (Kd.C_below hC (hb0.trans (hb1.mono hb0.size)))).mono ?_; rintro e w2 ⟨rfl, hb2⟩; rw [H1.out]))
        go_ret
        have hb := hb0.trans (hb1.mono hb0.size)
        exact ⟨by simp [h16], hb.trans (hb2.mono hb.size)⟩
end Go.Proofs.Ytahfmaocihlcnaa
