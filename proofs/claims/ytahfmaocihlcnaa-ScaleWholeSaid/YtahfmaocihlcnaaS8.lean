import Derived.Test.YtahfmaocihlcnaaS7
import Derived.Maps.OwnIn
import Derived.Maps.AppendAt
set_option linter.unusedVariables false
set_option linter.unusedSimpArgs false
namespace Go.Proofs.Ytahfmaocihlcnaa
open Go.RowKit Go.Shelf GW Go.Proofs.YtahfmaocihlcnaaW.PrintWords Go.Proofs.YtahfmaocihlcnaaW.PrintLast Go.Proofs.YtahfmaocihlcnaaW.PrintMore
attribute [local go_sem] max_ii min_ii Oper.semAt_some

/-- A result that lies in one cell, and one beside it. -/
theorem results_1t {P : Program} {fn : Func} {p u : Tmp} {ty : TypeId} {d : TypeDesc} {v : Value} {w : World} {g : Nat} (h : fn.results = #[.cell p ty, .tmp u]) (tmps : Array Value)
    (hp : tmps.getD p undef = .pointer (some ⟨g, 0, none⟩)) (hg : w.cell? ⟨g, 0, none⟩ = some v) (hu : P.underlying ty = some d) (hd : (match d with | .struct _ | .array _ _ => true | _ => false) = false) :
    (results fn tmps).run P w = .ok (.tuple #[v, tmps.getD u undef]) w := by
  have hp' : tmps[p]?.getD undef = .pointer (some ⟨g, 0, none⟩) := by simpa using hp
  simp [results, h, hp', asAddr, loadVar, run_isAgg_plain hu hd, hg, Sem.run_bind, Result.andThen]

/-- What of a row of the caller's own abides the iterator. -/
theorem ownG_R {α β : Type} {d : Kd α} {g B e base : Nat} {v : Value} (f : β → List α) (hne : ∀ (s : β) (W : World), d.R e W base (fun k => k ≠ g) v (f s) → True) :
    OwnG g B (fun (s : β) W => d.R e W base (fun k => k ≠ g) v (f s)) := by
  intro s W W' row hs hg hr
  refine Kd.R_mono (Kd.R_step (Kd.R_bound hs) (fun k hk hlt => hg.block k hlt (fun e' => ?_))) (fun _ hk => hk.1)
  rcases hr k e'.symm with h | ⟨_, o, ho, hc⟩
  · exact hk.1 h
  · obtain ⟨_, _, _, q, _, cells, hcell⟩ := hk
    rw [hcell] at ho
    cases ho
    cases hc

theorem cells_new (w : World) (cs : List Value) (t : TypeId) : ∀ j u, cs[j]? = some u → (w.alloc (.cells cs.toArray t)).cell? ((⟨w.heap.size, 0, none⟩ : Addr).add j) = some u := by
  intro j u hj
  have h := bk_new w (.cells cs.toArray t)
  unfold Addr.add
  split
  · rename_i h0
    subst h0
    rw [cell_of_row _ _ 0 _ _ _ h]
    simpa using hj
  · rw [show (⟨w.heap.size, 0 + j, none⟩ : Addr) = ⟨w.heap.size, j, none⟩ by simp]
    rw [cell_of_row _ _ j _ _ _ h]
    simpa using hj

theorem info32 : (Try.prog.info? 32).map (fun i => (i.zero, i.size, i.bytes)) = some (some (.agg #[.int .i64 0, .int .i64 0, .int .i64 0, .int .i64 0, .int .i64 0, .int .i64 0]), 6, 48) := by kernel_rfl

theorem run_any (a : Ac) (A : Option Addr) (c : Nat) (ys : List Yr) (w : World) (hC : Kd.C kYr w A ys.length ys) (hc : ys.length ≤ c) :
    Calls Try.prog 6 #[a.v, .slice A ys.length c] w fun e w' => ∃ v, e = .returned (.tuple #[v, .int .i64 (errOf a ys)]) ∧
      Kd.R kPm 32 w' w.heap.size (fun _ => True) v (if errOf a ys = 0 then paysOf a st0 ys else []) ∧ Below w.heap.size w w' := by
  obtain ⟨E, hE⟩ : ∃ E, E = errOf a ys := ⟨_, rfl⟩
  rw [← hE]
  have HA := Lib.hid (fun w h => errorOf_any a A c ys w h)
  rw [← hE] at HA
  have HE := Lib.hid hE
  clear hE
  refine callsIn_wide (n := 5).1 ?_
  refine callsIn_of_wp_marks Try.func6 rfl trivial ?_
  unfold Ac.v at *
  simp only [Try.ntmps6, List.size_toArray, List.length_cons, List.length_nil, Nat.reduceAdd, Nat.reduceSub, Array.replicate_succ, Array.replicate_zero, List.push_toArray, List.append_toArray, List.nil_append, List.cons_append]
  have hb0 : Below w.heap.size w ((w.alloc (.cells #[.int .i64 a.a0, .int .i64 a.a1, .int .i64 a.a2, .int .i64 a.a3, .int .i64 a.a4, .int .i64 a.a5] 23)).alloc (.cells #[.slice none 0 0] 26)) := ((Below.refl _ w).alloc (Nat.le_refl _) _).alloc (by simp) _
  have hB0 := bk_new (w.alloc (.cells #[.int .i64 a.a0, .int .i64 a.a1, .int .i64 a.a2, .int .i64 a.a3, .int .i64 a.a4, .int .i64 a.a5] 23)) (.cells #[.slice none 0 0] 26)
  have hA0 := bk_alloc (bk_new w (.cells #[.int .i64 a.a0, .int .i64 a.a1, .int .i64 a.a2, .int .i64 a.a3, .int .i64 a.a4, .int .i64 a.a5] 23)) (.cells #[.slice none 0 0] 26)
  rw [World.size_alloc] at hB0
  by_cases h0 : E = 0
  · subst h0
    gi_wp2_with (first | (refine ⟨trivial, ?_⟩; gi_at_call 15; go_loud (refine (callsIn_wide.2 (HA.out _ (Kd.C_below hC hb0))).mono ?_; rintro e w1 ⟨rfl, hb1⟩; have hB1 := kblk hb1 hB0; have hA1 := kblk hb1 hA0; have hA10 := cell_of_row _ _ 0 _ _ _ hA1; have hA11 := cell_of_row _ _ 1 _ _ _ hA1; have hA12 := cell_of_row _ _ 2 _ _ _ hA1; have hA13 := cell_of_row _ _ 3 _ _ _ hA1; have hA14 := cell_of_row _ _ 4 _ _ _ hA1; have hA15 := cell_of_row _ _ 5 _ _ _ hA1; have hB10 := cell_of_row _ _ 0 _ _ _ hB1; have hbf := fun i => free_of w1 (w.heap.size + 1) i _ _ hB1; have hlt1 := bk_lt hB1)) | (refine ⟨trivial, ?_⟩; gi_at_call 16; go_loud (refine (callsIn_wide.2 (years_any _ _ _ _ _)).mono ?_; rintro e w2 ⟨rfl, rfl⟩)))
    obtain ⟨ha, hlen, hys⟩ := errOf_zero HE.out.symm
    have hbn := hb0.trans (hb1.mono hb0.size)
    have hsz1 : w.heap.size + 1 < w1.heap.size := hlt1
    generalize hLdef : (((w1.alloc (.cells #[.int .i64 a.a0, .int .i64 a.a1, .int .i64 a.a2, .int .i64 a.a3, .int .i64 a.a4, .int .i64 a.a5, .int .i64 0, .slice none 0 0] 54)).alloc (.cells #[.pointer (some ⟨w1.heap.size, 0, none⟩)] 51)).alloc (.cells #[.slice A ys.length c] 24)) = WL
    have hLs : WL.heap.size = w1.heap.size + 3 := by rw [← hLdef]; simp
    have hLB : Below w1.heap.size w1 WL := by rw [← hLdef]; exact ((((Below.refl _ w1).alloc (Nat.le_refl _) _).alloc (by simp) _).alloc (by simp; omega) _)
    have hLn : Below w.heap.size w WL := hbn.trans (hLB.mono (by omega))
    have hLbox : WL.heap[w.heap.size + 1]? = some (.cells #[.slice none 0 0] 26 (0, 0)) := (hLB.block _ hlt1).trans hB1
    have hLg : WL.heap[w1.heap.size]? = some (.cells #[.int .i64 a.a0, .int .i64 a.a1, .int .i64 a.a2, .int .i64 a.a3, .int .i64 a.a4, .int .i64 a.a5, .int .i64 0, .slice none 0 0] 54 (0, 0)) := by rw [← hLdef]; exact bk_alloc (bk_alloc (bk_new _ _) _) _
    have hLc : WL.heap[w1.heap.size + 1]? = some (.cells #[.pointer (some ⟨w1.heap.size, 0, none⟩)] 51 (0, 0)) := by
      rw [← hLdef]; have := bk_new (w1.alloc (.cells #[.int .i64 a.a0, .int .i64 a.a1, .int .i64 a.a2, .int .i64 a.a3, .int .i64 a.a4, .int .i64 a.a5, .int .i64 0, .slice none 0 0] 54)) (.cells #[.pointer (some ⟨w1.heap.size, 0, none⟩)] 51)
      rw [World.size_alloc] at this; exact bk_alloc this _
    have hLl : WL.heap[w1.heap.size + 1 + 1]? = some (.cells #[.slice A ys.length c] 24 (0, 0)) := by
      rw [← hLdef]; have := bk_new ((w1.alloc (.cells #[.int .i64 a.a0, .int .i64 a.a1, .int .i64 a.a2, .int .i64 a.a3, .int .i64 a.a4, .int .i64 a.a5, .int .i64 0, .slice none 0 0] 54)).alloc (.cells #[.pointer (some ⟨w1.heap.size, 0, none⟩)] 51)) (.cells #[.slice A ys.length c] 24)
      rw [World.size_alloc, World.size_alloc] at this; exact this
    have hLold : ∀ b, b < w.heap.size → WL.heap[b]? = w.heap[b]? := fun b hb => hLn.block b hb
    have hpre : YPre a w1.heap.size (w1.heap.size + 1) (w1.heap.size + 1 + 1) w.heap.size w A ys.length c st0 WL :=
      ⟨hLc, hLl, ⟨none, 0, hLg, Nat.le_refl _, by decide, ⟨rfl, by simp [st0], fun h => by simp [st0] at h⟩, fun ad e => by cases e⟩, hLold, hLn.size⟩
    clear hLdef hLc hLl hLg hb0 hB0 hA0 HA hB1 hA1 hA10 hA11 hA12 hA13 hA14 hA15 hB10 hbf
    obtain ⟨i0, hi, hz0, hz1, hz2⟩ := info_parts info32
    refine wpIn_rangeG rfl (by decide) (gf := 27) (lb := #[.pointer (some ⟨w1.heap.size + 1, 0, none⟩), .pointer (some ⟨w1.heap.size + 1 + 1, 0, none⟩)]) rfl trivial (enters_of Try.func27 (by kernel_rfl) rfl)
      (years1_it a ha w1.heap.size (w1.heap.size + 1) (w1.heap.size + 1 + 1) w.heap.size w A c ys hys hlen 4 rfl (by omega) (by omega) (by omega) hC) (by omega) (by omega) (fun _ => rfl)
      (fun o o' => (hpre.alloc o).alloc o') ?post
      (fun k W => (∃ v, Boxed W (w.heap.size + 1) 26 v ∧ Kd.R kPm 32 W w.heap.size (fun k => k ≠ w1.heap.size) v ((paysOf a st0 ys).take k)) ∧ Below w.heap.size w W ∧ w1.heap.size < W.heap.size)
      (fun _ _ _ => False)
      (fun k a' W => ∃ b, w1.heap.size < b ∧ W.heap[b]? = some (.cells ((paysOf a st0 ys).getD k pm0).cells.toArray 32 (0, 0)) ∧ a' = { tmps := #[.agg #[.int .i64 a.a0, .int .i64 a.a1, .int .i64 a.a2, .int .i64 a.a3, .int .i64 a.a4, .int .i64 a.a5], .slice A ys.length c, .pointer (some ⟨w.heap.size, 0, none⟩), undef, .pointer (some ⟨w.heap.size + 1, 0, none⟩), .int .i64 0, .int .i64 0, .pointer (some ⟨w1.heap.size, 0, none⟩), undef, .pointer (some ⟨b, 0, none⟩), .agg #[.int .i64 a.a0, .int .i64 a.a1, .int .i64 a.a2, .int .i64 a.a3, .int .i64 a.a4, .int .i64 a.a5], .slice A ys.length c, .int .i64 0, .int .i64 0, .bool false, undef, .agg #[.int .i64 a.a0, .int .i64 a.a1, .int .i64 a.a2, .int .i64 a.a3, .int .i64 a.a4, .int .i64 a.a5], .agg #[.int .i64 a.a0, .int .i64 a.a1, .int .i64 a.a2, .int .i64 a.a3, .int .i64 a.a4, .int .i64 a.a5, .int .i64 0, .slice none 0 0], .pointer (some ⟨w1.heap.size, 0, none⟩), .pointer (some ⟨w1.heap.size, 0, none⟩), .slice A ys.length c, .func (.func 27) #[] #[.pointer (some ⟨w1.heap.size + 1, 0, none⟩), .pointer (some ⟨w1.heap.size + 1 + 1, 0, none⟩)], .int .i64 k, ((paysOf a st0 ys).getD k pm0).v, undef, undef, undef, undef, undef], defers := [] })
      ?own (fun _ _ _ _ _ h _ _ => h) ?ownA ⟨⟨_, hLbox, Kd.R_nil _ _ _ _ _⟩, hLn, by omega⟩ ?assign ?body ?done (fun D c k W _ _ h _ => h.elim)
    case post =>
      intro W l o o' hl ho hc hco
      exact hco.keeps (n0 := 0) (keepsT_put o' (Nat.zero_le _) ho hc)
    case own =>
      rintro k W W' row ⟨⟨v, hb, hR⟩, hB, hs⟩ hg hr
      refine ⟨⟨v, hb.kept hg (fun e => ?_), ownG_R (β := Unit) (g := w1.heap.size) (B := WL.heap.size) (fun _ => (paysOf a st0 ys).take k) (fun _ _ _ => trivial) () W W' row hR hg hr⟩, ownG_below (β := Unit) (Nat.le_refl _) (by omega) (by omega) () W W' row hB hg hr, Nat.lt_of_lt_of_le hs hg.size⟩
      rcases hr _ e.symm with h | ⟨h, _⟩ <;> omega
    case ownA =>
      rintro a' k W W' row ⟨b, hb, hbk, rfl⟩ hg hr
      refine ⟨b, hb, ownG_blk (β := Unit) (g := w1.heap.size) (B := WL.heap.size) (o := fun _ => .cells ((paysOf a st0 ys).getD k pm0).cells.toArray 32 (0, 0)) (fun _ => rfl) (by omega) () W W' row hbk hg hr, rfl⟩
    case assign =>
      rintro l k W K ⟨⟨v, hb, hR⟩, hB, hs⟩ hk hK
      generalize (paysOf a st0 ys).getD k pm0 = pm at *
      obtain ⟨p0, p1, p2, p3, p4, p5⟩ := pm
      simp only [Pm.v, Pm.cells] at *
      gi_wp2
      exact hK _ _ (KeepsOthers.alloc _ _) (KeepsT.alloc _ _ hB.size) ⟨⟨v, hb.alloc _, Kd.R_below hR ((Below.refl _ _).alloc (Nat.le_refl _) _)⟩, hB.alloc hB.size _, by simp; omega⟩ ⟨W.heap.size, hs, bk_new _ _, rfl⟩
    case body =>
      rintro l k a' W ⟨⟨v, hb, hR⟩, hB, hs⟩ ⟨b, hbg, hbk, rfl⟩ hk
      have hpl := paysOf_length a ys st0
      have htk : (paysOf a st0 ys).take (k + 1) = (paysOf a st0 ys).take k ++ [(paysOf a st0 ys).getD k pm0] := by
        rw [List.take_add_one, List.getD_eq_getElem?_getD, List.getElem?_eq_getElem (by omega)]; rfl
      have htl : ((paysOf a st0 ys).take k).length = k := by rw [List.length_take]; omega
      have Htk := Lib.hid htk
      clear htk
      generalize (paysOf a st0 ys).getD k pm0 = pm at *
      have hpm : pm.cells = [.int .i64 pm.rate, .int .i64 pm.due, .int .i64 pm.paid, .int .i64 pm.arrears, .int .i64 pm.reserve, .int .i64 pm.rebate] := rfl
      rw [hpm] at hbk
      have q0 := cell_of_row _ b 0 _ _ _ hbk
      have q1 := cell_of_row _ b 1 _ _ _ hbk
      have q2 := cell_of_row _ b 2 _ _ _ hbk
      have q3 := cell_of_row _ b 3 _ _ _ hbk
      have q4 := cell_of_row _ b 4 _ _ _ hbk
      have q5 := cell_of_row _ b 5 _ _ _ hbk
      have hbc := hb.cell
      have hbf := hb.frozen
      have hba := hb.alloc (.cells #[.int .i64 pm.rate, .int .i64 pm.due, .int .i64 pm.paid, .int .i64 pm.arrears, .int .i64 pm.reserve, .int .i64 pm.rebate] 32)
      have hRa := Kd.R_below hR ((Below.refl _ W).alloc (Nat.le_refl _) (.cells #[.int .i64 pm.rate, .int .i64 pm.due, .int .i64 pm.paid, .int .i64 pm.arrears, .int .i64 pm.reserve, .int .i64 pm.rebate] 32))
      have hne := Kd.R_ne hRa hba (by decide)
      have hsl := Kd.R_slice hR
      obtain ⟨h0, inner, hown, hreps⟩ := hRa
      have hBs := hB.size
      have Hpm := Lib.hid hpm
      clear hpm hR
      gi_wp2_with (gi_at_builtin; go_loud (refine wpListIn_append_own_at _ rfl (.tmp 24) (.tmp 26) 26 rfl w.heap.size 32 i0 _ 6 48 Try.underlying26 hi hz0 hz1 hz2 rfl (by decide) v _ inner rfl hown ⟨W.heap.size, 0, none⟩ 1 1 [.int .i64 pm.rate, .int .i64 pm.due, .int .i64 pm.paid, .int .i64 pm.arrears, .int .i64 pm.reserve, .int .i64 pm.rebate] rfl rfl (cells_new W _ 32) (by simp [Value.oneCell']) (by unfold maxLen; omega) (by omega) (by simp; omega) ?_; intro v1 w2 hown1 hg1 hnil hat1; obtain ⟨g', cap', rfl⟩ := ownsRow_succ hown1; have hb2 := hba.kept hg1 hne; have hbc2 := hb2.cell; have hbf2 := hb2.frozen))
      have hsz2 := hg1.size
      rw [World.size_alloc] at hsz2
      refine ⟨((KeepsOthers.alloc W _).trans (KeepsOthers.of_grownBy hg1 (fun j o hj ho => ?_))).trans (KeepsOthers.setCell _ _ _), ((KeepsT.alloc W _ hBs).trans (.grown hg1 (by simp; omega) (fun r hr => ⟨own_base hown r hr, ?_⟩))).trans (.setCell hb2 (by omega) (by unfold TBody; decide) 0 none _), ⟨_, hb2.set _, ?_⟩, ?_, ?_⟩
      · obtain ⟨cs, hcs⟩ := own_typed hown j hj
        rw [hcs] at ho
        cases ho
        rfl
      · obtain ⟨cs, hcs⟩ := own_typed hown r hr
        refine ⟨_, hcs, fun cs' t' fr' e => ?_⟩
        cases e
        unfold TBody
        decide
      · rw [Htk.out]
        have hRn := Kd.R_appended (d := kPm) (okp := fun _ => False) (p := pm) h0 hreps rfl (fun _ h => h.elim) (fun k hk => by simp at hk; omega) hown1 hg1 (hat1.imp id (fun h => ⟨_, h, Nat.le_refl _⟩))
        have := Kd.R_set hRn hb2 (by intro q hq; simp [kPm, recK] at hq; subst hq; decide) 0 (.slice (some ⟨g', 0, none⟩) (k + 1) cap')
        rw [htl] at this
        exact this
      · refine ((hB.alloc hBs _).grown hg1 (by simp; omega) (fun k e => own_base hown k e)).setCell (p := ⟨w.heap.size + 1, 0, none⟩) (by show w.heap.size ≤ w.heap.size + 1; omega) _
      · simp [World.setCell]; omega
    case done =>
      rintro D W hD ⟨⟨v, hb, hR⟩, hB, hs⟩ hco hK
      rw [List.take_of_length_le (by rw [paysOf_length]; exact Nat.le_refl _)] at hR
      have hbc := hb.cell
      have hbf := hb.frozen
      obtain ⟨Av, cv, rfl⟩ := Kd.R_slice hR
      gi_wp2
      have hK' := (KeepsOthers.setCell W ⟨w.heap.size + 1, 0, none⟩ (.slice Av (paysOf a st0 ys).length cv)).same D _ hK rfl
      have hb' := (hb.set (.slice Av (paysOf a st0 ys).length cv)).kept (grownBy_putObj' _ D (.deferred none)) (by simp; omega)
      have hR' := Kd.R_set hR hb (by intro q hq; simp [kPm, recK] at hq; subst hq; decide) 0 (.slice Av (paysOf a st0 ys).length cv)
      have hR2 := ownG_R (β := Unit) (g := w1.heap.size) (B := WL.heap.size) (fun _ => paysOf a st0 ys) (fun _ _ _ => trivial) () _ _ (some D) hR' (grownBy_putObj' _ D (.deferred none)) (fun r e => by cases e; exact .inr ⟨hD, _, hK', rfl⟩)
      refine ⟨by simp, .inl ⟨_, _, rfl, run_takeDeferred hK', ?_⟩⟩
      refine ⟨_, results_1t rfl _ rfl hb'.cell Try.underlying26 rfl, _, rfl, Kd.R_mono hR2 (fun _ _ => trivial), ?_⟩
      exact (hB.setCell (p := ⟨w.heap.size + 1, 0, none⟩) (by show w.heap.size ≤ w.heap.size + 1; omega) _).trans (belowK_b (w := w) (Nat.le_refl _) _ D _ _ (by omega) hK' rfl rfl)
  · gi_wp2_with (first | (refine ⟨trivial, ?_⟩; gi_at_call 15; go_loud (refine (callsIn_wide.2 (HA.out _ (Kd.C_below hC hb0))).mono ?_; rintro e w1 ⟨rfl, hb1⟩; have hB1 := kblk hb1 hB0; have hA1 := kblk hb1 hA0; have hA10 := cell_of_row _ _ 0 _ _ _ hA1; have hA11 := cell_of_row _ _ 1 _ _ _ hA1; have hA12 := cell_of_row _ _ 2 _ _ _ hA1; have hA13 := cell_of_row _ _ 3 _ _ _ hA1; have hA14 := cell_of_row _ _ 4 _ _ _ hA1; have hA15 := cell_of_row _ _ 5 _ _ _ hA1; have hB10 := cell_of_row _ _ 0 _ _ _ hB1; have hbf := fun i => free_of w1 (w.heap.size + 1) i _ _ hB1; have hlt1 := bk_lt hB1)) | (refine ⟨trivial, ?_⟩; gi_at_call 16; go_loud (refine (callsIn_wide.2 (years_any _ _ _ _ _)).mono ?_; rintro e w2 ⟨rfl, rfl⟩)))
    have hbn := hb0.trans (hb1.mono hb0.size)
    have hb' := Boxed.set (.slice none 0 0) hB1
    exact ⟨_, results_1t rfl _ rfl hb'.cell Try.underlying26 rfl, _, rfl, Kd.R_nil _ _ _ _ _, hbn.setCell (p := ⟨w.heap.size + 1, 0, none⟩) (by show w.heap.size ≤ w.heap.size + 1; omega) _⟩
end Go.Proofs.Ytahfmaocihlcnaa
