import Derived.Test.YtahfmaocihlcnaaS8
set_option linter.unusedVariables false
set_option linter.unusedSimpArgs false
namespace Go.Proofs.Ytahfmaocihlcnaa
open Go.RowKit Go.Shelf GW Go.Proofs.YtahfmaocihlcnaaW.PrintWords Go.Proofs.YtahfmaocihlcnaaW.PrintLast Go.Proofs.YtahfmaocihlcnaaW.PrintMore
attribute [local go_sem] max_ii min_ii Oper.semAt_some

/-- What Check answers: the number and the error. -/
def ChkRel (own ps : List Pm) (i : Nat) (e : Int) : Prop :=
  (i < own.length ∧ ps.take i = own.take i ∧ (i = ps.length ∧ e = 4 ∨ ∃ x y, ps[i]? = some x ∧ own[i]? = some y ∧ x ≠ y ∧ e = 11)) ∨
  (i = own.length ∧ ps.take i = own ∧ (i < ps.length ∧ e = 11 ∨ i = ps.length ∧ e = 0))

theorem pm_get {w : World} {A : Option Addr} {m : Nat} {xs : List Pm} (h : Kd.C kPm w A m xs) (k : Nat) (y : Pm) (hk : xs[k]? = some y) :
    ∃ ad, A = some ad ∧ w.cell? (ad.add (k * 6)) = some (.int .i64 y.rate) ∧ w.cell? ⟨(ad.add (k * 6)).block, (ad.add (k * 6)).off + 1, none⟩ = some (.int .i64 y.due) ∧
      w.cell? ⟨(ad.add (k * 6)).block, (ad.add (k * 6)).off + 2, none⟩ = some (.int .i64 y.paid) ∧ w.cell? ⟨(ad.add (k * 6)).block, (ad.add (k * 6)).off + 3, none⟩ = some (.int .i64 y.arrears) ∧
      w.cell? ⟨(ad.add (k * 6)).block, (ad.add (k * 6)).off + 4, none⟩ = some (.int .i64 y.reserve) ∧ w.cell? ⟨(ad.add (k * 6)).block, (ad.add (k * 6)).off + 5, none⟩ = some (.int .i64 y.rebate) := by
  obtain ⟨ad, hA, hc⟩ := rec_get h k y hk
  refine ⟨ad, hA, hc 0 _ rfl, ?_, ?_, ?_, ?_, ?_⟩ <;> rw [← add_lit _ _ _ (by decide)]
  · exact hc 1 _ rfl
  · exact hc 2 _ rfl
  · exact hc 3 _ rfl
  · exact hc 4 _ rfl
  · exact hc 5 _ rfl

/-- Payments are compared by their numbers. -/
theorem eq32 (x y : Pm) (w : World) : (Op.equalIn 10000 32 (.agg #[.int .i64 x.rate, .int .i64 x.due, .int .i64 x.paid, .int .i64 x.arrears, .int .i64 x.reserve, .int .i64 x.rebate])
    (.agg #[.int .i64 y.rate, .int .i64 y.due, .int .i64 y.paid, .int .i64 y.arrears, .int .i64 y.reserve, .int .i64 y.rebate])).run Try.prog w = .ok (decide (x = y)) w := by
  have hS : Try.prog.underlying 32 = some (.struct (Try.prog.fieldsOf 32)) := by kernel_rfl
  have hp : Try.prog.stoodInHeld 32 = false := by kernel_rfl
  rw [show (10000 : Nat) = 9999 + 1 from rfl, run_equalIn_agg w 9999 32 _ _ hS hp]
  simp only [Program.fieldsOf, Try.underlying32]
  obtain ⟨x0, x1, x2, x3, x4, x5⟩ := x
  obtain ⟨y0, y1, y2, y3, y4, y5⟩ := y
  simp only [Pm.mk.injEq]
  by_cases h0 : x0 = y0
  · by_cases h1 : x1 = y1
    · by_cases h2 : x2 = y2
      · by_cases h3 : x3 = y3
        · by_cases h4 : x4 = y4
          · by_cases h5 : x5 = y5
            · subst h0 h1 h2 h3 h4 h5; go_simp
            · go_simp
          · go_simp
        · go_simp
      · go_simp
    · go_simp
  · go_simp

attribute [local go_sem high] eq32

/-- Two results that lie in one cell each. -/
theorem results_11 {P : Program} {fn : Func} {p q : Tmp} {ty ty' : TypeId} {d d' : TypeDesc} {v v' : Value} {w : World} {g g' : Nat} (h : fn.results = #[.cell p ty, .cell q ty']) (tmps : Array Value)
    (hp : tmps.getD p undef = .pointer (some ⟨g, 0, none⟩)) (hg : w.cell? ⟨g, 0, none⟩ = some v) (hu : P.underlying ty = some d) (hd : (match d with | .struct _ | .array _ _ => true | _ => false) = false)
    (hp2 : tmps.getD q undef = .pointer (some ⟨g', 0, none⟩)) (hg2 : w.cell? ⟨g', 0, none⟩ = some v') (hu2 : P.underlying ty' = some d') (hd2 : (match d' with | .struct _ | .array _ _ => true | _ => false) = false) :
    (results fn tmps).run P w = .ok (.tuple #[v, v']) w := by
  have hp' : tmps[p]?.getD undef = .pointer (some ⟨g, 0, none⟩) := by simpa using hp
  have hp2' : tmps[q]?.getD undef = .pointer (some ⟨g', 0, none⟩) := by simpa using hp2
  simp [results, h, hp', hp2', asAddr, loadVar, run_isAgg_plain hu hd, run_isAgg_plain hu2 hd2, hg, hg2, Sem.run_bind, Result.andThen]

theorem chk_end {n0 : Nat} {w W : World} (b6 b7 : Nat) (i er : Int) {v6 v7 : Value} (h6 : W.heap[b6]? = some (.cells #[v6] 3 (0, 0))) (h7 : W.heap[b7]? = some (.cells #[v7] 27 (0, 0))) (hB : Below n0 w W) (l6 : n0 ≤ b6) (l7 : n0 ≤ b7) :
    KeepsOthers W ((W.setCell ⟨b6, 0, none⟩ (.int .i64 i)).setCell ⟨b7, 0, none⟩ (.int .i64 er)) ∧ ((W.setCell ⟨b6, 0, none⟩ (.int .i64 i)).setCell ⟨b7, 0, none⟩ (.int .i64 er)).heap[b6]? = some (.cells #[.int .i64 i] 3 (0, 0)) ∧
      ((W.setCell ⟨b6, 0, none⟩ (.int .i64 i)).setCell ⟨b7, 0, none⟩ (.int .i64 er)).heap[b7]? = some (.cells #[.int .i64 er] 27 (0, 0)) ∧ Below n0 w ((W.setCell ⟨b6, 0, none⟩ (.int .i64 i)).setCell ⟨b7, 0, none⟩ (.int .i64 er)) ∧
      ((W.setCell ⟨b6, 0, none⟩ (.int .i64 i)).setCell ⟨b7, 0, none⟩ (.int .i64 er)).heap.size = W.heap.size := by
  have hne := ne_typed h6 h7 (by decide)
  refine ⟨(KeepsOthers.setCell _ _ _).trans (KeepsOthers.setCell _ _ _), bk_far (bk_set h6 0 _) ⟨b7, 0, none⟩ _ hne, bk_set (bk_far h7 ⟨b6, 0, none⟩ _ (fun e => hne e.symm)) 0 _, (hB.setCell (p := ⟨b6, 0, none⟩) l6 _).setCell (p := ⟨b7, 0, none⟩) l7 _, by simp [World.setCell]⟩

theorem cell_put {W : World} {b D : Nat} {v : Value} {t : TypeId} {o : Obj} (h : W.heap[b]? = some (.cells #[v] t (0, 0))) (hne : b ≠ D) : (W.putObj D o).cell? ⟨b, 0, none⟩ = some v :=
  cell_of_row _ b 0 _ _ _ ((World.putObj_heap_other hne).trans h)

set_option maxHeartbeats 8000000 in
theorem check_any (a : Ac) (A PA : Option Addr) (c cp : Nat) (ys : List Yr) (ps : List Pm) (w : World) (hC : Kd.C kYr w A ys.length ys) (hP : Kd.C kPm w PA ps.length ps) :
    Calls Try.prog 8 #[a.v, .slice A ys.length c, .slice PA ps.length cp] w fun e w' =>
      (∃ (i : Nat) (er : Int), e = .returned (.tuple #[.int .i64 i, .int .i64 er]) ∧ if errOf a ys = 0 then ChkRel (paysOf a st0 ys) ps i er else i = 0 ∧ er = errOf a ys) ∧ Below w.heap.size w w' := by
  obtain ⟨E, hE⟩ : ∃ E, E = errOf a ys := ⟨_, rfl⟩
  rw [← hE]
  have HA := Lib.hid (fun w h => errorOf_any a A c ys w h)
  rw [← hE] at HA
  have HE := Lib.hid hE
  clear hE
  refine callsIn_wide (n := 5).1 ?_
  refine callsIn_of_wp_marks Try.func8 rfl trivial ?_
  unfold Ac.v at *
  simp only [Try.ntmps8, List.size_toArray, List.length_cons, List.length_nil, Nat.reduceAdd, Nat.reduceSub, Array.replicate_succ, Array.replicate_zero, List.push_toArray, List.append_toArray, List.nil_append, List.cons_append]
  -- the four boxes
  obtain ⟨X0, hX0⟩ : ∃ X, X = w.alloc (.cells #[.int .i64 a.a0, .int .i64 a.a1, .int .i64 a.a2, .int .i64 a.a3, .int .i64 a.a4, .int .i64 a.a5] 23) := ⟨_, rfl⟩
  obtain ⟨X1, hX1⟩ : ∃ X, X = X0.alloc (.cells #[.slice PA ps.length cp] 26) := ⟨_, rfl⟩
  obtain ⟨X2, hX2⟩ : ∃ X, X = X1.alloc (.cells #[.int .i64 0] 3) := ⟨_, rfl⟩
  obtain ⟨X3, hX3⟩ : ∃ X, X = X2.alloc (.cells #[.int .i64 0] 27) := ⟨_, rfl⟩
  have z0 : X0.heap.size = w.heap.size + 1 := by rw [hX0]; simp
  have z1 : X1.heap.size = w.heap.size + 2 := by rw [hX1]; simp [z0]
  have z2 : X2.heap.size = w.heap.size + 3 := by rw [hX2]; simp [z1]
  have z3 : X3.heap.size = w.heap.size + 4 := by rw [hX3]; simp [z2]
  have hb0 : Below w.heap.size w X3 := by
    rw [hX3, hX2, hX1, hX0]
    exact ((((Below.refl _ w).alloc (Nat.le_refl _) _).alloc (by simp) _).alloc (by simp; omega) _).alloc (by simp; omega) _
  have k3 : X3.heap[w.heap.size]? = some (.cells #[.int .i64 a.a0, .int .i64 a.a1, .int .i64 a.a2, .int .i64 a.a3, .int .i64 a.a4, .int .i64 a.a5] 23 (0, 0)) := by rw [hX3, hX2, hX1]; exact bk_alloc (bk_alloc (bk_alloc (by rw [hX0]; exact bk_new _ _) _) _) _
  have k5 : X3.heap[w.heap.size + 1]? = some (.cells #[.slice PA ps.length cp] 26 (0, 0)) := by rw [hX3, hX2]; exact bk_alloc (bk_alloc (by rw [hX1, ← z0]; exact bk_new _ _) _) _
  have k6 : X3.heap[w.heap.size + 2]? = some (.cells #[.int .i64 0] 3 (0, 0)) := by rw [hX3]; exact bk_alloc (by rw [hX2, ← z1]; exact bk_new _ _) _
  have k7 : X3.heap[w.heap.size + 3]? = some (.cells #[.int .i64 0] 27 (0, 0)) := by rw [hX3, ← z2]; exact bk_new _ _
  have HX : (((w.alloc (.cells #[.int .i64 a.a0, .int .i64 a.a1, .int .i64 a.a2, .int .i64 a.a3, .int .i64 a.a4, .int .i64 a.a5] 23)).alloc (.cells #[.slice PA ps.length cp] 26)).alloc (.cells #[.int .i64 0] 3)).alloc (.cells #[.int .i64 0] 27) = X3 := by rw [hX3, hX2, hX1, hX0]
  clear hX0 hX1 hX2 hX3
  have c30 := cell_of_row _ _ 0 _ _ _ k3
  have c31 := cell_of_row _ _ 1 _ _ _ k3
  have c32 := cell_of_row _ _ 2 _ _ _ k3
  have c33 := cell_of_row _ _ 3 _ _ _ k3
  have c34 := cell_of_row _ _ 4 _ _ _ k3
  have c35 := cell_of_row _ _ 5 _ _ _ k3
  by_cases h0 : E = 0
  · subst h0
    gi_wp2_with (first | (refine ⟨trivial, ?_⟩; gi_at_call 15; go_loud (refine (callsIn_wide.2 (HA.out _ (Kd.C_below hC hb0))).mono ?_; rintro e w1 ⟨rfl, hb1⟩; have k3 := kblk hb1 k3; have k5 := kblk hb1 k5; have k6 := kblk hb1 k6; have k7 := kblk hb1 k7; have c30 := cell_of_row _ _ 0 _ _ _ k3; have c31 := cell_of_row _ _ 1 _ _ _ k3; have c32 := cell_of_row _ _ 2 _ _ _ k3; have c33 := cell_of_row _ _ 3 _ _ _ k3; have c34 := cell_of_row _ _ 4 _ _ _ k3; have c35 := cell_of_row _ _ 5 _ _ _ k3; have c50 := cell_of_row _ _ 0 _ _ _ k5; have c60 := cell_of_row _ _ 0 _ _ _ k6; have c70 := cell_of_row _ _ 0 _ _ _ k7; have f6 := fun i => free_of w1 (w.heap.size + 2) i _ _ k6; have f7 := fun i => free_of w1 (w.heap.size + 3) i _ _ k7; have hlt1 := bk_lt k7)) | (refine ⟨trivial, ?_⟩; gi_at_call 16; go_loud (refine (callsIn_wide.2 (years_any _ _ _ _ _)).mono ?_; rintro e w2 ⟨rfl, rfl⟩)))
    obtain ⟨ha, hlen, hys⟩ := errOf_zero HE.out.symm
    have hbn := hb0.trans (hb1.mono hb0.size)
    have hsz1 : w.heap.size + 3 < w1.heap.size := hlt1
    generalize hLdef : (((w1.alloc (.cells #[.int .i64 a.a0, .int .i64 a.a1, .int .i64 a.a2, .int .i64 a.a3, .int .i64 a.a4, .int .i64 a.a5, .int .i64 0, .slice none 0 0] 54)).alloc (.cells #[.pointer (some ⟨w1.heap.size, 0, none⟩)] 51)).alloc (.cells #[.slice A ys.length c] 24)) = WL
    have hLs : WL.heap.size = w1.heap.size + 3 := by rw [← hLdef]; simp
    have hLB : Below w1.heap.size w1 WL := by rw [← hLdef]; exact ((((Below.refl _ w1).alloc (Nat.le_refl _) _).alloc (by simp) _).alloc (by simp; omega) _)
    have hLn : Below w.heap.size w WL := hbn.trans (hLB.mono (by omega))
    have L5 := (hLB.block _ (by omega)).trans k5
    have L6 := (hLB.block _ (by omega)).trans k6
    have L7 := (hLB.block _ (by omega)).trans k7
    have hLg : WL.heap[w1.heap.size]? = some (.cells #[.int .i64 a.a0, .int .i64 a.a1, .int .i64 a.a2, .int .i64 a.a3, .int .i64 a.a4, .int .i64 a.a5, .int .i64 0, .slice none 0 0] 54 (0, 0)) := by rw [← hLdef]; exact bk_alloc (bk_alloc (bk_new _ _) _) _
    have hLc : WL.heap[w1.heap.size + 1]? = some (.cells #[.pointer (some ⟨w1.heap.size, 0, none⟩)] 51 (0, 0)) := by
      rw [← hLdef]; have := bk_new (w1.alloc (.cells #[.int .i64 a.a0, .int .i64 a.a1, .int .i64 a.a2, .int .i64 a.a3, .int .i64 a.a4, .int .i64 a.a5, .int .i64 0, .slice none 0 0] 54)) (.cells #[.pointer (some ⟨w1.heap.size, 0, none⟩)] 51)
      rw [World.size_alloc] at this; exact bk_alloc this _
    have hLl : WL.heap[w1.heap.size + 1 + 1]? = some (.cells #[.slice A ys.length c] 24 (0, 0)) := by
      rw [← hLdef]; have := bk_new ((w1.alloc (.cells #[.int .i64 a.a0, .int .i64 a.a1, .int .i64 a.a2, .int .i64 a.a3, .int .i64 a.a4, .int .i64 a.a5, .int .i64 0, .slice none 0 0] 54)).alloc (.cells #[.pointer (some ⟨w1.heap.size, 0, none⟩)] 51)) (.cells #[.slice A ys.length c] 24)
      rw [World.size_alloc, World.size_alloc] at this; exact this
    have hpre : YPre a w1.heap.size (w1.heap.size + 1) (w1.heap.size + 1 + 1) w.heap.size w A ys.length c st0 WL :=
      ⟨hLc, hLl, ⟨none, 0, hLg, Nat.le_refl _, by decide, ⟨rfl, by simp [st0], fun h => by simp [st0] at h⟩, fun ad e => by cases e⟩, fun b hb => hLn.block b hb, hLn.size⟩
    clear hLdef hLc hLl hLg hb0 HA HX k3 k5 k6 k7 c30 c31 c32 c33 c34 c35 c50 c60 c70 f6 f7
    refine name_act fun a0 hA0 => ?_
    refine wpIn_rangeG rfl (by decide) (gf := 27) (lb := #[.pointer (some ⟨w1.heap.size + 1, 0, none⟩), .pointer (some ⟨w1.heap.size + 1 + 1, 0, none⟩)]) (by subst hA0; rfl) trivial (enters_of Try.func27 (by kernel_rfl) rfl)
      (years1_it a ha w1.heap.size (w1.heap.size + 1) (w1.heap.size + 1 + 1) w.heap.size w A c ys hys hlen 4 rfl (by omega) (by omega) (by omega) hC) (by omega) (by omega) (fun _ => rfl)
      (fun o o' => (hpre.alloc o).alloc o') ?post
      (fun k W => (W.heap[w.heap.size + 1]? = some (.cells #[.slice PA ps.length cp] 26 (0, 0)) ∧ W.heap[w.heap.size + 2]? = some (.cells #[.int .i64 0] 3 (0, 0)) ∧ W.heap[w.heap.size + 3]? = some (.cells #[.int .i64 0] 27 (0, 0))) ∧ Below w.heap.size w W ∧ w1.heap.size < W.heap.size ∧ ps.take k = (paysOf a st0 ys).take k ∧ k ≤ ys.length)
      (fun cd _ W => cd = .ret ∧ (∃ (i : Nat) (er : Int), ChkRel (paysOf a st0 ys) ps i er ∧ W.heap[w.heap.size + 2]? = some (.cells #[.int .i64 i] 3 (0, 0)) ∧ W.heap[w.heap.size + 3]? = some (.cells #[.int .i64 er] 27 (0, 0))) ∧ Below w.heap.size w W ∧ w1.heap.size < W.heap.size)
      (fun k a' W => ∃ b, w1.heap.size < b ∧ W.heap[b]? = some (.cells ((paysOf a st0 ys).getD k pm0).cells.toArray 32 (0, 0)) ∧ a' = { tmps := (((a0.tmps.setIfInBounds 24 (.int .i64 k)).setIfInBounds 25 ((paysOf a st0 ys).getD k pm0).v).setIfInBounds 10 (.int .i64 k)).setIfInBounds 11 (.pointer (some ⟨b, 0, none⟩)), defers := [] })
      ?own ?ownX ?ownA ⟨⟨L5, L6, L7⟩, hLn, by omega, by simp, by omega⟩ ?assign ?body ?done ?stop
    case post =>
      intro W l o o' hl ho hc hco
      exact hco.keeps (n0 := 0) (keepsT_put o' (Nat.zero_le _) ho hc)
    case own =>
      rintro k W W' row ⟨⟨h5, h6, h7⟩, hB, hs, hk⟩ hg hr
      exact ⟨⟨ownG_blk (β := Unit) (g := w1.heap.size) (B := WL.heap.size) (o := fun _ => .cells #[.slice PA ps.length cp] 26 (0, 0)) (fun _ => rfl) (by omega) () W W' row h5 hg hr, ownG_blk (β := Unit) (g := w1.heap.size) (B := WL.heap.size) (o := fun _ => .cells #[.int .i64 0] 3 (0, 0)) (fun _ => rfl) (by omega) () W W' row h6 hg hr, ownG_blk (β := Unit) (g := w1.heap.size) (B := WL.heap.size) (o := fun _ => .cells #[.int .i64 0] 27 (0, 0)) (fun _ => rfl) (by omega) () W W' row h7 hg hr⟩, ownG_below (β := Unit) (Nat.le_refl _) (by omega) (by omega) () W W' row hB hg hr, Nat.lt_of_lt_of_le hs hg.size, hk⟩
    case ownX =>
      rintro cd k W W' row ⟨rfl, ⟨i, er, hch, h6, h7⟩, hB, hs⟩ hg hr
      exact ⟨rfl, ⟨i, er, hch, ownG_blk (β := Unit) (g := w1.heap.size) (B := WL.heap.size) (o := fun _ => .cells #[.int .i64 i] 3 (0, 0)) (fun _ => rfl) (by omega) () W W' row h6 hg hr, ownG_blk (β := Unit) (g := w1.heap.size) (B := WL.heap.size) (o := fun _ => .cells #[.int .i64 er] 27 (0, 0)) (fun _ => rfl) (by omega) () W W' row h7 hg hr⟩, ownG_below (β := Unit) (Nat.le_refl _) (by omega) (by omega) () W W' row hB hg hr, Nat.lt_of_lt_of_le hs hg.size⟩
    case ownA =>
      rintro a' k W W' row ⟨b, hb, hbk, rfl⟩ hg hr
      exact ⟨b, hb, ownG_blk (β := Unit) (g := w1.heap.size) (B := WL.heap.size) (o := fun _ => .cells ((paysOf a st0 ys).getD k pm0).cells.toArray 32 (0, 0)) (fun _ => rfl) (by omega) () W W' row hbk hg hr, rfl⟩
    case assign =>
      rintro l k W K ⟨⟨h5, h6, h7⟩, hB, hs, htk⟩ hk hK
      generalize (paysOf a st0 ys).getD k pm0 = pm at *
      obtain ⟨p0, p1, p2, p3, p4, p5⟩ := pm
      subst hA0
      simp only [Pm.v, Pm.cells] at *
      gi_wp2
      exact hK _ _ (KeepsOthers.alloc _ _) (KeepsT.alloc _ _ hB.size) ⟨⟨bk_alloc h5 _, bk_alloc h6 _, bk_alloc h7 _⟩, hB.alloc hB.size _, by simp; omega, htk⟩ ⟨W.heap.size, hs, bk_new _ _, rfl⟩
    case body =>
      rintro l k a' W ⟨⟨h5, h6, h7⟩, hB, hs, htk, hkl⟩ ⟨b, hbg, hbk, rfl⟩ hk
      subst hA0
      simp only [List.setIfInBounds_toArray, List.set_cons_succ, List.set_cons_zero]
      have hpl := paysOf_length a ys st0
      obtain ⟨y, hy⟩ : ∃ y, (paysOf a st0 ys)[k]? = some y := ⟨_, List.getElem?_eq_getElem (by omega)⟩
      have hyd : (paysOf a st0 ys).getD k pm0 = y := by rw [List.getD_eq_getElem?_getD, hy]; rfl
      rw [hyd] at hbk ⊢
      have hpm : y.cells = [.int .i64 y.rate, .int .i64 y.due, .int .i64 y.paid, .int .i64 y.arrears, .int .i64 y.reserve, .int .i64 y.rebate] := rfl
      rw [hpm] at hbk
      clear hpm hyd
      have q0 := cell_of_row _ b 0 _ _ _ hbk
      have q1 := cell_of_row _ b 1 _ _ _ hbk
      have q2 := cell_of_row _ b 2 _ _ _ hbk
      have q3 := cell_of_row _ b 3 _ _ _ hbk
      have q4 := cell_of_row _ b 4 _ _ _ hbk
      have q5 := cell_of_row _ b 5 _ _ _ hbk
      have c5 := cell_of_row _ _ 0 _ _ _ h5
      have c6 := cell_of_row _ _ 0 _ _ _ h6
      have c7 := cell_of_row _ _ 0 _ _ _ h7
      have f6 := fun i => free_of W (w.heap.size + 2) i _ _ h6
      have f7 := fun i => free_of W (w.heap.size + 3) i _ _ h7
      have hkp : k ≤ ps.length := by
        have := congrArg List.length htk
        rw [List.length_take, List.length_take] at this
        omega
      have Htk := Lib.hid htk
      clear htk
      by_cases hkl : k = ps.length
      · subst hkl
        gi_wp2
        obtain ⟨e1, e2, e3, e4, e5⟩ := chk_end (w.heap.size + 2) (w.heap.size + 3) (ps.length : Nat) 4 h6 h7 hB (by omega) (by omega)
        exact ⟨e1, rfl, ⟨ps.length, 4, (.inl ⟨by omega, by rw [Htk.out], .inl ⟨rfl, rfl⟩⟩), e2, e3⟩, e4, by rw [e5]; exact hs⟩
      · obtain ⟨x, hx⟩ : ∃ x, ps[k]? = some x := ⟨_, List.getElem?_eq_getElem (by omega)⟩
        obtain ⟨ad, hPA, p0, p1, p2, p3, p4, p5⟩ := pm_get (rec_same hP (fun b hb => hB.block b hb)) k x hx
        subst hPA
        by_cases hxy : x = y
        · subst hxy
          gi_wp2
          gi_region
          all_goals gi_wp2
          all_goals
            exact ⟨⟨Nat.le_refl _, fun _ _ h _ => h⟩, ⟨Nat.le_refl _, fun _ _ => rfl, fun _ _ _ _ h _ => h⟩, ⟨h5, h6, h7⟩, hB.drew, hs, by rw [List.take_add_one, List.take_add_one, Htk.out, hx, hy], by omega⟩
        · gi_wp2
          gi_region
          all_goals gi_wp2
          all_goals
            obtain ⟨e1, e2, e3, e4, e5⟩ := chk_end (w.heap.size + 2) (w.heap.size + 3) (k : Nat) 11 h6 h7 hB (by omega) (by omega)
            exact ⟨⟨e1.size, e1.same⟩, rfl, ⟨k, 11, (.inl ⟨by omega, by rw [Htk.out], .inr ⟨x, y, hx, hy, hxy, rfl⟩⟩), e2, e3⟩, e4.drew, Nat.lt_of_lt_of_eq hs e5.symm⟩
    case done =>
      rintro D W hD ⟨⟨h5, h6, h7⟩, hB, hs, htk, hkl⟩ hco hK
      have hpl := paysOf_length a ys st0
      rw [List.take_of_length_le (l := paysOf a st0 ys) (by omega)] at htk
      have hle : ys.length ≤ ps.length := by
        have := congrArg List.length htk
        rw [List.length_take] at this
        omega
      have Htk := Lib.hid htk
      clear htk
      have c5 := cell_of_row _ _ 0 _ _ _ h5
      have c6 := cell_of_row _ _ 0 _ _ _ h6
      have c7 := cell_of_row _ _ 0 _ _ _ h7
      have f6 := fun i => free_of W (w.heap.size + 2) i _ _ h6
      have f7 := fun i => free_of W (w.heap.size + 3) i _ _ h7
      subst hA0
      by_cases hgt : ys.length < ps.length
      · gi_wp2
        obtain ⟨e1, e2, e3, e4, e5⟩ := chk_end (w.heap.size + 2) (w.heap.size + 3) (ys.length : Nat) 11 h6 h7 hB (by omega) (by omega)
        have hK' := e1.same D _ hK rfl
        refine ⟨by simp, .inl ⟨_, _, rfl, run_takeDeferred hK', ?_⟩⟩
        exact ⟨_, results_11 rfl _ rfl (cell_put e2 (by omega)) Try.underlying3 rfl rfl (cell_put e3 (by omega)) Try.underlying27 rfl, ⟨ys.length, 11, rfl, .inr ⟨hpl.symm, Htk.out, .inl ⟨hgt, rfl⟩⟩⟩, e4.trans (belowK_b (w := w) (Nat.le_refl _) _ D _ _ (by omega) hK' rfl rfl)⟩
      · gi_wp2
        obtain ⟨e1, e2, e3, e4, e5⟩ := chk_end (w.heap.size + 2) (w.heap.size + 3) (ys.length : Nat) 0 h6 h7 hB (by omega) (by omega)
        have hK' := e1.same D _ hK rfl
        refine ⟨by simp, .inl ⟨_, _, rfl, run_takeDeferred hK', ?_⟩⟩
        exact ⟨_, results_11 rfl _ rfl (cell_put e2 (by omega)) Try.underlying3 rfl rfl (cell_put e3 (by omega)) Try.underlying27 rfl, ⟨ys.length, 0, rfl, .inr ⟨hpl.symm, Htk.out, .inr ⟨by omega, rfl⟩⟩⟩, e4.trans (belowK_b (w := w) (Nat.le_refl _) _ D _ _ (by omega) hK' rfl rfl)⟩
    case stop =>
      rintro D cd k W hD hk ⟨rfl, ⟨i, er, hch, h6, h7⟩, hB, hs⟩ hK
      subst hA0
      gi_wp2
      refine ⟨by simp, .inl ⟨_, _, rfl, run_takeDeferred hK, ?_⟩⟩
      exact ⟨_, results_11 rfl _ rfl (cell_put h6 (by omega)) Try.underlying3 rfl rfl (cell_put h7 (by omega)) Try.underlying27 rfl, ⟨i, er, rfl, hch⟩, hB.trans (belowK_b (w := w) (Nat.le_refl _) W D _ _ (by omega) hK rfl rfl)⟩
  · gi_wp2_with (first | (refine ⟨trivial, ?_⟩; gi_at_call 15; go_loud (refine (callsIn_wide.2 (HA.out _ (Kd.C_below hC hb0))).mono ?_; rintro e w1 ⟨rfl, hb1⟩; have k3 := kblk hb1 k3; have k5 := kblk hb1 k5; have k6 := kblk hb1 k6; have k7 := kblk hb1 k7; have c30 := cell_of_row _ _ 0 _ _ _ k3; have c31 := cell_of_row _ _ 1 _ _ _ k3; have c32 := cell_of_row _ _ 2 _ _ _ k3; have c33 := cell_of_row _ _ 3 _ _ _ k3; have c34 := cell_of_row _ _ 4 _ _ _ k3; have c35 := cell_of_row _ _ 5 _ _ _ k3; have c50 := cell_of_row _ _ 0 _ _ _ k5; have c60 := cell_of_row _ _ 0 _ _ _ k6; have c70 := cell_of_row _ _ 0 _ _ _ k7; have f6 := fun i => free_of w1 (w.heap.size + 2) i _ _ k6; have f7 := fun i => free_of w1 (w.heap.size + 3) i _ _ k7; have hlt1 := bk_lt k7)) | (refine ⟨trivial, ?_⟩; gi_at_call 16; go_loud (refine (callsIn_wide.2 (years_any _ _ _ _ _)).mono ?_; rintro e w2 ⟨rfl, rfl⟩)))
    have hbn := hb0.trans (hb1.mono hb0.size)
    obtain ⟨e1, e2, e3, e4, e5⟩ := chk_end (w.heap.size + 2) (w.heap.size + 3) 0 E k6 k7 hbn (by omega) (by omega)
    exact ⟨_, results_11 rfl _ rfl (cell_of_row _ _ 0 _ _ _ e2) Try.underlying3 rfl rfl (cell_of_row _ _ 0 _ _ _ e3) Try.underlying27 rfl, rfl, e4⟩
end Go.Proofs.Ytahfmaocihlcnaa
