import Derived.Test.YtahfmaocihlcnaaS4
set_option linter.unusedVariables false
set_option linter.unusedSimpArgs false
namespace Go.Proofs.Ytahfmaocihlcnaa
open Go.RowKit Go.Shelf GW Go.Proofs.YtahfmaocihlcnaaW.PrintWords Go.Proofs.YtahfmaocihlcnaaW.PrintLast Go.Proofs.YtahfmaocihlcnaaW.PrintMore
attribute [local go_sem] max_ii min_ii Oper.semAt_some

theorem add_lit (ad : Addr) (m i : Nat) (h : i ≠ 0) : ad.add (m + i) = ⟨(ad.add m).block, (ad.add m).off + i, none⟩ := by
  unfold Addr.add
  rw [if_neg (by omega)]
  split
  · rename_i hm; subst hm; simp
  · simp; omega
theorem yr_get {w : World} {A : Option Addr} {m : Nat} {xs : List Yr} (h : Kd.C kYr w A m xs) (k : Nat) (y : Yr) (hk : xs[k]? = some y) :
    ∃ ad, A = some ad ∧ w.cell? (ad.add (k * 3)) = some (.int .i64 y.price) ∧ w.cell? ⟨(ad.add (k * 3)).block, (ad.add (k * 3)).off + 1, none⟩ = some (.int .i64 y.cap) ∧
      w.cell? ⟨(ad.add (k * 3)).block, (ad.add (k * 3)).off + 2, none⟩ = some (.int .i64 y.profit) := by
  obtain ⟨ad, hA, hc⟩ := rec_get h k y hk
  exact ⟨ad, hA, hc 0 _ rfl, by rw [← add_lit _ _ _ (by decide)]; exact hc 1 _ rfl, by rw [← add_lit _ _ _ (by decide)]; exact hc 2 _ rfl⟩

theorem years_any (g : Nat) (A : Option Addr) (n c : Nat) (w : World) :
    Calls Try.prog 16 #[.pointer (some ⟨g, 0, none⟩), .slice A n c] w fun e w' =>
      e = .returned (.func (.func 27) #[] #[.pointer (some ⟨w.heap.size, 0, none⟩), .pointer (some ⟨w.heap.size + 1, 0, none⟩)]) ∧
        w' = (w.alloc (.cells #[.pointer (some ⟨g, 0, none⟩)] 51)).alloc (.cells #[.slice A n c] 24) := by
  go_enter Try.func16, Try.ntmps16
  go_wp2
  go_ret
  exact ⟨rfl, rfl⟩

def Pm.v (p : Pm) : Value := .agg #[.int .i64 p.rate, .int .i64 p.due, .int .i64 p.paid, .int .i64 p.arrears, .int .i64 p.reserve, .int .i64 p.rebate]
def pm0 : Pm := ⟨0, 0, 0, 0, 0, 0⟩
def CoAt (W : World) (g : Nat) (a : Ac) (s : St) : Prop := IsCo W g a.a0 a.a1 a.a2 a.a3 a.a4 a.a5 s.bal s.arr
def TBody (t : TypeId) : Prop := t ≠ 26 ∧ t ≠ 32
structure YPre (a : Ac) (g bc bl n0 : Nat) (w0 : World) (A : Option Addr) (n c : Nat) (s : St) (W : World) : Prop where
  hc : W.heap[bc]? = some (.cells #[.pointer (some ⟨g, 0, none⟩)] 51 (0, 0))
  hl : W.heap[bl]? = some (.cells #[.slice A n c] 24 (0, 0))
  co : CoAt W g a s
  old : ∀ b, b < n0 → W.heap[b]? = w0.heap[b]?
  sz : n0 ≤ W.heap.size
theorem CoAt.keeps {n0 : Nat} {W W' : World} {g : Nat} {a : Ac} {s : St} (h : CoAt W g a s) (k : KeepsT n0 TBody W W') : CoAt W' g a s := by
  obtain ⟨A, c, hg, h1, h2, hC, ht⟩ := h
  refine ⟨A, c, k.blk _ _ _ _ hg (by unfold TBody; decide), h1, h2, ?_, fun ad e => (ht ad e).imp fun cs hcs => k.blk _ _ _ _ hcs (by unfold TBody; decide)⟩
  obtain ⟨hl, hm, hc⟩ := hC
  refine ⟨hl, hm, fun h0 => ?_⟩
  obtain ⟨ad, e, hc⟩ := hc h0
  refine ⟨ad, e, fun j p hp => ?_⟩
  obtain ⟨c', hcl, hK, hcell⟩ := hc j p hp
  refine ⟨c', hcl, hK, fun i u hu => ?_⟩
  have h2 := hcell i u hu
  obtain ⟨cs, hcs⟩ := ht ad e
  have hcs' := k.blk _ _ _ _ hcs (by unfold TBody; decide)
  rw [← h2]
  unfold World.cell?
  rw [block_add, hcs, hcs']
theorem YPre.keeps {a : Ac} {g bc bl n0 : Nat} {w0 : World} {A : Option Addr} {n c : Nat} {s : St} {W W' : World} (h : YPre a g bc bl n0 w0 A n c s W) (k : KeepsT n0 TBody W W') : YPre a g bc bl n0 w0 A n c s W' :=
  ⟨k.blk _ _ _ _ h.hc (by unfold TBody; decide), k.blk _ _ _ _ h.hl (by unfold TBody; decide), h.co.keeps k, fun b hb => (k.old b hb).trans (h.old b hb), Nat.le_trans h.sz k.size⟩
theorem YPre.alloc {a : Ac} {g bc bl n0 : Nat} {w0 : World} {A : Option Addr} {n c : Nat} {s : St} {W : World} (h : YPre a g bc bl n0 w0 A n c s W) (o : Obj) : YPre a g bc bl n0 w0 A n c s (W.alloc o) := h.keeps (.alloc _ _ h.sz)

theorem year_next {a : Ac} (ha : a.ok) (g k : Nat) (s : St) (y : Yr) (w : World) (hco : CoAt w g a s) (hst : StOk a k s) (hk : k ≤ 16) (hy : YrOk y) :
    Calls Try.prog 28 #[.pointer (some ⟨g, 0, none⟩), .agg #[.int .i64 y.price, .int .i64 y.cap, .int .i64 y.profit], dueFn g] w fun e w' =>
      e = .returned (nextP a s y).v ∧ CoAt w' g a (nextS a s y) ∧ w.grownBy w' (some g) := by
  have hlo := hst.lo
  have hhi := hst.hi
  refine (year_any ha g _ y.price y.cap y.profit _ _ hco hst.arr hy.p0 hy.p1 hy.c0 hy.c1 hy.f0 hy.f1 (by omega) (by omega) _ _ _ _ rfl rfl rfl rfl).mono ?_
  rintro e w' ⟨rfl, hI, hG⟩
  exact ⟨rfl, hI, hG⟩

set_option maxHeartbeats 2000000 in
theorem years1_it (a : Ac) (ha : a.ok) (g bc bl n0 : Nat) (w0 : World) (A : Option Addr) (c : Nat) (ys : List Yr) (hys : ∀ y ∈ ys, YrOk y) (hlen : ys.length ≤ 16) (n : Nat) (hw0 : w0.heap.size = n0)
    (hg : n0 ≤ g) (hbc : n0 ≤ bc) (hbl : n0 ≤ bl) (hC : Kd.C kYr w0 A ys.length ys) :
    ItG Fence.wide n Try.prog 27 #[.pointer (some ⟨bc, 0, none⟩), .pointer (some ⟨bl, 0, none⟩)] (fun k => #[.int .i64 k, ((paysOf a st0 ys).getD k pm0).v]) ys.length g n0 TBody
      (YPre a g bc bl n0 w0 A ys.length c st0) (fun W => CoAt W g a (stOf a st0 ys)) := by
  intro l J Jx W hP hJ hJx hY h0
  refine callsIn_of_wp Try.func27 rfl trivial ?_ rfl
  simp only [Try.ntmps27, List.size_toArray, List.length_cons, List.length_nil, Nat.reduceAdd, Nat.reduceSub, Array.replicate_succ, Array.replicate_zero, List.push_toArray, List.append_toArray, List.nil_append, List.cons_append]
  have hbc0 := cell_of_row W bc 0 _ _ _ hP.hc
  have hbl0 := cell_of_row W bl 0 _ _ _ hP.hl
  gi_wp2
  gi_loopw [11] (fun i wr => ∃ k : Nat, k ≤ ys.length ∧ i = .int .i64 k ∧ J k wr ∧ YPre a g bc bl n0 w0 A ys.length c (stOf a st0 (ys.take k)) wr) (fun i _ => ys.length - (intOf i).toNat)
  case atStart => exact ⟨0, Nat.zero_le _, rfl, h0, hP⟩
  case round =>
    obtain ⟨k, hk, rfl, hJk, hp⟩ := hrel
    by_cases hlt : k < ys.length
    · obtain ⟨y, hy⟩ : ∃ y, ys[k]? = some y := ⟨_, List.getElem?_eq_getElem hlt⟩
      obtain ⟨ad, hA, c0, c1, c2⟩ := yr_get (rec_same hC (fun b hb => hp.old b (by omega))) k y hy
      subst hA
      have hbc0 := cell_of_row wr bc 0 _ _ _ hp.hc
      have hbl0 := cell_of_row wr bl 0 _ _ _ hp.hl
      have hsz := hp.sz
      have hco := hp.co.keeps (.alloc wr (.cells #[.int .i64 y.price, .int .i64 y.cap, .int .i64 y.profit] 34) hp.sz)
      have hyo := hys y (List.mem_of_getElem? hy)
      have hst := stOk_of ha (ys.take k) 0 st0 (stOk_0 a) (fun z hz => hys z (List.mem_of_mem_take hz))
      have hlk : (ys.take k).length = k := by rw [List.length_take]; omega
      rw [Nat.zero_add, hlk] at hst
      have hbc1 := cell_of_row _ bc 0 _ _ _ (bk_alloc hp.hc (.cells #[.int .i64 y.price, .int .i64 y.cap, .int .i64 y.profit] 34))
      have hpay : (paysOf a st0 ys).getD k pm0 = nextP a (stOf a st0 (ys.take k)) y := by rw [List.getD_eq_getElem?_getD, paysOf_get a ys st0 k y hy]; rfl
      have hnx : stOf a st0 (ys.take (k + 1)) = nextS a (stOf a st0 (ys.take k)) y := by rw [List.take_add_one, hy, ← stOf_snoc]; rfl
      have HY := hY k
      rw [hpay] at HY
      have Hpay := Lib.hid hpay
      have Hnx := Lib.hid hnx
      clear hpay hnx
      gi_wp2_with (first | (refine ⟨trivial, (fun h => absurd h (by decide)), ?_⟩; gi_at_call 28; go_loud (refine (callsIn_wide.2 (year_next ha g k _ y _ hco hst (by omega) hyo)).mono ?_; rintro e w1 ⟨rfl, hI1, hG1⟩; obtain ⟨fn, tmps, assign, body, hyd, hR⟩ := HY w1 hlt (hJ _ _ _ hJk (gb_trans (gb_alloc (gb_refl wr (some g)) _) hG1)))))
      refine ⟨fun h => absurd h (by decide), hR.mono ?_⟩
      have hp1 : YPre a g bc bl n0 w0 (some ad) ys.length c (stOf a st0 (ys.take (k + 1))) w1 := by
        have hG : wr.grownBy w1 (some g) := gb_trans (gb_alloc (gb_refl wr (some g)) _) hG1
        have hgg := hp.co
        obtain ⟨_, _, hgb, _⟩ := hgg
        refine ⟨gb_blk hG hp.hc (by have := ne_typed hp.hc hgb (by decide); simp; omega), gb_blk hG hp.hl (by have := ne_typed hp.hl hgb (by decide); simp; omega), by rw [Hnx.out]; exact hI1, fun b hb => (hG.block b (by omega) (by simp; omega)).trans (hp.old b hb), Nat.le_trans hp.sz hG.size⟩
      rintro e W3 (⟨rfl, hJ3, hk3⟩ | ⟨rfl, hJx3⟩)
      · gi_wp2
        go_roundw
        case rel => exact ⟨k + 1, by omega, by go_num, hJ3, hp1.keeps hk3⟩
        case measure => simp [intOf]; omega
      · gi_wp2
        refine bodyPost_ret (results_none rfl _ _ _) rfl ?_
        exact ⟨⟨_, rfl⟩, .inr ⟨k, hlt, hJx3⟩⟩
    · obtain rfl : k = ys.length := by omega
      gi_wp2
      go_end0
      refine ⟨⟨_, rfl⟩, .inl ⟨hJk, ?_⟩⟩
      have := hp.co
      rwa [List.take_length] at this
end Go.Proofs.Ytahfmaocihlcnaa
