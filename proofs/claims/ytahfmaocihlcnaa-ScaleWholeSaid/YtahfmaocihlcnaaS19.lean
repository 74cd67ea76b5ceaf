/- ScaleWhole: the row: for every act, all years and numbers the law returns true, and what it reads stays as it was. -/
import Derived.Test.YtahfmaocihlcnaaRows
import Derived.Test.YtahfmaocihlcnaaOpen
import Derived.Test.YtahfmaocihlcnaaS18
set_option linter.unusedVariables false
set_option linter.unusedSimpArgs false
namespace Go.Proofs.Ytahfmaocihlcnaa
namespace WholeRow
open Go.Joins Go.ChangeShapes Go.WideShapes Go.ChangeAt Go.RowKit Go.Deep GW Go.Proofs.YtahfmaocihlcnaaW.PrintWords Go.Proofs.YtahfmaocihlcnaaW.PrintLast Go.Proofs.YtahfmaocihlcnaaW.PrintMore
open Go.ChangeMaps (open_string shut_string)

theorem whole_any (a : Ac) (A : Option Addr) (c : Nat) (ys : List Yr) (f t wh : Int) (w : World) (hf0 : 0 ≤ f) (hf1 : f ≤ 255) (ht0 : 0 ≤ t) (ht1 : t ≤ 255) (hwh0 : 0 ≤ wh) (hwh1 : wh ≤ 255) (hC : Kd.C kYr w A ys.length ys) (hc : ys.length ≤ c) :
    Calls Try.prog 3 #[a.v, .slice A ys.length c, .int .u8 f, .int .u8 t, .int .u8 wh] w fun e w' => e = .returned (.bool true) ∧ Below w.heap.size w w' := by
  by_cases hl : 24 < ys.length
  · exact whole_big a A c ys f t wh w hl
  · by_cases h0 : errOf a ys = 0
    · exact whole_ok a A c ys f t wh w hf0 hf1 ht0 ht1 hwh0 hwh1 hC hc (by omega) h0
    · exact whole_no a A c ys f t wh w hC hc (by omega) h0

theorem own : ownKnob Try.prog.godebug = none := by kernel_rfl
theorem laidOut : laidOutB Try.prog = true := by kernel_rfl
theorem cells23 : Try.prog.cellsOf 23 = 6 := by kernel_rfl
theorem u8_wf {n : Int} (h : (Lit.int .u8 n).wf = true) : 0 ≤ n ∧ n ≤ 255 := by
  simp [Lit.wf] at h
  have e1 : IntKind.u8.min = 0 := by decide
  have e2 : IntKind.u8.max = 255 := by decide
  omega
set_option maxRecDepth 100000 in
theorem lifted (os : Os) (started : os.Started) (H : Type) (enc : TypeId × Value → H) :
    ReturnsInHanded {} Try.checked os 3 .any (Rows.scaleWholeSpec.pre6 enc Try.prog Try.f3 Rows.scaleWholeRow.domain false) (Rows.scaleWholeSpec.post enc Try.prog Try.f3 false true false false) := by
  refine returnsInHanded_of_change_sized (C := Try.checked) own started (by kernel_rfl) Try.func3
    (ChangeSpec.witness6 (enc := enc) (C := Try.checked) false ⟨#[], #[.agg #[(Value.int .i64 0), (Value.int .i64 0), (Value.int .i64 0), (Value.int .i64 0), (Value.int .i64 0), (Value.int .i64 0)], .slice none 0 0, .int .u8 0, .int .u8 0, .int .u8 0], []⟩ 8 (by kernel_rfl) (by kernel_rfl) (by kernel_rfl) (by kernel_rfl)) ?_
  intro W base args ds gs before hval0 hW hcnd hsz0 _
  have hval : ∀ (j : Nat) t v, Try.f3.params[j]? = some t → args[j]? = some v → Value.okWide Try.prog W .any base t v := hval0
  have hW' := hW
  obtain ⟨p, q, hA0, hV, rfl, hfz, hnd⟩ := hW
  have hA : DataW.TrodAll enc Try.prog W 0 (fun _ => true) true Try.f3.params.toList args.toList ds p := hA0
  rw [Try.params3] at hA hval
  obtain ⟨v0, vs0, d0, ds0, p0, q0, hargs, rfl, rfl, h0, r0⟩ := trodAll_cons hA
  obtain ⟨v1, vs1, d1, ds1, p1, q1, rfl, rfl, rfl, h1, r1⟩ := trodAll_cons r0
  obtain ⟨v2, vs2, d2, ds2, p2, q2, rfl, rfl, rfl, h2, r2⟩ := trodAll_cons r1
  obtain ⟨v3, vs3, d3, ds3, p3, q3, rfl, rfl, rfl, h3, r3⟩ := trodAll_cons r2
  obtain ⟨v4, vs4, d4, ds4, p4, q4, rfl, rfl, rfl, h4, r4⟩ := trodAll_cons r3
  obtain ⟨rfl, rfl, rfl⟩ := trodAll_nil r4
  obtain rfl : args = #[v0, v1, v2, v3, v4] := by cases args; simp_all
  obtain ⟨rfl, rfl⟩ := trodVars_none hV
  have k0 := h0
  have lt0 : ∀ x ∈ p0, x.block < W.heap.size := by obtain ⟨m, hm⟩ := k0; exact DataW.trod_lt m _ _ _ hm
  have k1 := h1
  have lt1 : ∀ x ∈ p1, x.block < W.heap.size := by obtain ⟨m, hm⟩ := k1; exact DataW.trod_lt m _ _ _ hm
  obtain ⟨a2, rfl, rfl, rfl, w2⟩ := open_int Try.underlying5 (hval 2 5 v2 rfl rfl) h2
  obtain ⟨a3, rfl, rfl, rfl, w3⟩ := open_int Try.underlying5 (hval 3 5 v3 rfl rfl) h3
  obtain ⟨a4, rfl, rfl, rfl, w4⟩ := open_int Try.underlying5 (hval 4 5 v4 rfl rfl) h4
  obtain ⟨a, rfl⟩ : ∃ a : Ac, v0 = a.v := by
    obtain ⟨c0, c1, c2, c3, c4, c5, y0, y1, y2, y3, y4, y5, n, rfl, _, _, t0, t1, t2, t3, t4, t5⟩ := open_agg6 Try.underlying23 (by kernel_rfl) cells23 (hval 0 23 v0 rfl rfl) h0
    obtain ⟨n0, e0, _, _⟩ := DataW.trod_int Try.underlying3 t0
    obtain ⟨n1, e1, _, _⟩ := DataW.trod_int Try.underlying3 t1
    obtain ⟨n2, e2, _, _⟩ := DataW.trod_int Try.underlying3 t2
    obtain ⟨n3, e3, _, _⟩ := DataW.trod_int Try.underlying3 t3
    obtain ⟨n4, e4, _, _⟩ := DataW.trod_int Try.underlying3 t4
    obtain ⟨n5, e5, _, _⟩ := DataW.trod_int Try.underlying3 t5
    cases e0; cases e1; cases e2; cases e3; cases e4; cases e5
    exact ⟨⟨n0, n1, n2, n3, n4, n5⟩, rfl⟩
  obtain ⟨A, len, cap, ys, rfl, hlc, hcm, rfl, hC⟩ : ∃ A len cap ys, v1 = .slice A len cap ∧ len ≤ cap ∧ cap ≤ maxLen ∧ ys.length = len ∧ Kd.C kYr W A len ys := by
    refine open_recs Try.underlying24 Try.underlying34 (by kernel_rfl) (by kernel_rfl) rfl (fun f hf => ?_) (hval 1 24 v1 rfl rfl) h1
    obtain ⟨m0, y0, t0⟩ := hf 0 _ rfl
    obtain ⟨m1, y1, t1⟩ := hf 1 _ rfl
    obtain ⟨m2, y2, t2⟩ := hf 2 _ rfl
    obtain ⟨n0, e0, _, _⟩ := DataW.trod_int Try.underlying3 t0
    obtain ⟨n1, e1, _, _⟩ := DataW.trod_int Try.underlying3 t1
    obtain ⟨n2, e2, _, _⟩ := DataW.trod_int Try.underlying3 t2
    refine ⟨⟨n0, n1, n2⟩, fun j u hu => ?_⟩
    rcases j with _ | _ | _ | j <;> simp [Yr.cells] at hu
    · simp at e0; rw [← hu, e0]
    · simp at e1; rw [← hu, e1]
    · simp at e2; rw [← hu, e2]
  clear hA0 hval0 hsz0
  obtain ⟨f0, f1⟩ := u8_wf w2
  obtain ⟨g0, g1⟩ := u8_wf w3
  obtain ⟨i0, i1⟩ := u8_wf w4
  refine (whole_any a A cap ys a2 a3 a4 W f0 f1 g0 g1 i0 i1 hC hlc).mono fun e W' ⟨he, bel⟩ => ?_
  subst he
  exact ⟨_, rfl, _, _, _, [], _, [], hW', trodAll_mk1 (shut_bool Try.underlying4 _),
    (trodAll_cons_mk (Below.trod laidOut (by kernel_rfl) (of_decide_eq_true (by kernel_rfl)) k0 bel lt0) (trodAll_cons_mk (Below.trod laidOut (by kernel_rfl) (of_decide_eq_true (by kernel_rfl)) k1 bel lt1)
      (trodAll_cons_mk (shut_int Try.underlying5 w2) (trodAll_cons_mk (shut_int Try.underlying5 w3) (trodAll_cons_mk (shut_int Try.underlying5 w4) trodAll_mk0))))), rfl, bel.frame _, fun h => by cases h⟩
theorem over : Rows.scaleWholeRow.holds Try.pinned (OpenSpec.ofChange Rows.scaleWholeSpec) :=
  OpenClaim.holds_of_wide 3 Try.f3 rfl rfl rfl rfl rfl rfl rfl ⟨rfl, rfl, rfl, rfl, rfl⟩ rfl rfl rfl rfl rfl (by kernel_rfl) Try.func3 (by kernel_rfl)
    (of_decide_eq_true (by kernel_rfl)) (by unfold Func.isWrapper; first | (rw [if_pos (by decide +kernel)]; kernel_rfl) | (rw [if_neg (by decide +kernel)]; exact ⟨rfl, rfl⟩))
    (fun os started H enc _ => lifted os started H enc)
end WholeRow
/-- The law ScaleWhole holds of the program for every input. -/
theorem scaleWhole_holds : Rows.ScaleWholeSaid := WholeRow.over
#print axioms scaleWhole_holds
end Go.Proofs.Ytahfmaocihlcnaa
