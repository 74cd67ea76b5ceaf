import Derived.Test.YtahfmaocihlcnaaIter
import Derived.Test.YtahfmaocihlcnaaS3
set_option linter.unusedVariables false
set_option linter.unusedSimpArgs false
namespace Go.Proofs.Ytahfmaocihlcnaa
open Go.RowKit Go.Shelf GW Go.Proofs.YtahfmaocihlcnaaW.PrintWords Go.Proofs.YtahfmaocihlcnaaW.PrintLast Go.Proofs.YtahfmaocihlcnaaW.PrintMore
attribute [local go_sem] max_ii min_ii Oper.semAt_some
namespace GW
/-- A kind whose values' cells are what enc says. -/
def recK {α : Type} (n : Nat) (enc : α → List Value) (hn : ∀ x, (enc x).length = n) (h1 : ∀ x, ∀ u ∈ enc x, u.oneCell' = true) : Kd α where
  sz := n
  E := []
  K := fun _ x cs => cs = enc x
  M := fun _ _ _ x cs => cs = enc x
  K_len := fun h => by rw [h, hn]
  K_one := fun h u hu => by rw [h] at hu; exact h1 _ u hu
  K_below := fun _ h => h
  K_of_M := fun h => h
  M_mono := fun _ h => h
  M_bound := fun h => h
  M_move := fun _ h => h
  M_lower := fun _ h => h
theorem rec_get {α : Type} {n : Nat} {enc : α → List Value} {hn : ∀ x, (enc x).length = n} {h1 : ∀ x, ∀ u ∈ enc x, u.oneCell' = true} {w : World} {A : Option Addr} {m : Nat} {xs : List α} (h : Kd.C (recK n enc hn h1) w A m xs) (k : Nat) (x : α) (hk : xs[k]? = some x) :
    ∃ ad, A = some ad ∧ ∀ i u, (enc x)[i]? = some u → w.cell? (ad.add (k * n + i)) = some u := by
  obtain ⟨hl, _, hc⟩ := h
  have hlt : k < xs.length := (List.getElem?_eq_some_iff.1 hk).1
  obtain ⟨ad, e, hc⟩ := hc (by omega)
  obtain ⟨c, _, hK, hcell⟩ := hc k x hk
  obtain rfl : c = enc x := hK
  exact ⟨ad, e, hcell⟩
/-- Read on in a world in which all that lay lies. -/
theorem rec_same {α : Type} {n : Nat} {enc : α → List Value} {hn : ∀ x, (enc x).length = n} {h1 : ∀ x, ∀ u ∈ enc x, u.oneCell' = true} {w w1 : World} {A : Option Addr} {m : Nat} {xs : List α} (h : Kd.C (recK n enc hn h1) w A m xs) (hs : ∀ b, b < w.heap.size → w1.heap[b]? = w.heap[b]?) : Kd.C (recK n enc hn h1) w1 A m xs := by
  obtain ⟨hl, hm, hc⟩ := h
  refine ⟨hl, hm, fun h0 => ?_⟩
  obtain ⟨ad, e, hc⟩ := hc h0
  refine ⟨ad, e, fun j p hp => ?_⟩
  obtain ⟨c, hcl, hK, hcell⟩ := hc j p hp
  refine ⟨c, hcl, hK, fun i u hu => ?_⟩
  have h2 := hcell i u hu
  have hb := World.block_lt_of_cell? w _ h2
  rw [← h2]
  unfold World.cell?
  rw [hs _ hb]
end GW

structure Ac where (a0 a1 a2 a3 a4 a5 : Int)
structure Yr where (price cap profit : Int)
structure Pm where (rate due paid arrears reserve rebate : Int)
deriving instance DecidableEq for Pm
structure St where (bal : Int) (arr : List Int)
def Ac.ok (a : Ac) : Prop := ActOk a.a0 a.a1 a.a2 a.a3 a.a4 a.a5
def Ac.v (a : Ac) : Value := .agg #[.int .i64 a.a0, .int .i64 a.a1, .int .i64 a.a2, .int .i64 a.a3, .int .i64 a.a4, .int .i64 a.a5]
def Yr.cells (y : Yr) : List Value := [.int .i64 y.price, .int .i64 y.cap, .int .i64 y.profit]
def Pm.cells (p : Pm) : List Value := [.int .i64 p.rate, .int .i64 p.due, .int .i64 p.paid, .int .i64 p.arrears, .int .i64 p.reserve, .int .i64 p.rebate]
def kYr : Kd Yr := recK 3 Yr.cells (fun _ => rfl) (fun x u h => by simp [Yr.cells] at h; rcases h with h | h | h <;> subst h <;> rfl)
def kPm : Kd Pm := recK 6 Pm.cells (fun _ => rfl) (fun x u h => by simp [Pm.cells] at h; rcases h with h | h | h | h | h | h <;> subst h <;> rfl)
structure YrOk (y : Yr) : Prop where
  p0 : 0 ≤ y.price
  p1 : y.price ≤ 100000
  c0 : 0 ≤ y.cap
  c1 : y.cap ≤ 1099511627776
  f0 : -1099511627776 ≤ y.profit
  f1 : y.profit ≤ 1099511627776

/-- What a year comes to. -/
def nextP (a : Ac) (s : St) (y : Yr) : Pm :=
  let du := dueOf a.a0 a.a1 a.a2 a.a3 y.price y.cap
  let pd := paidOf du s.arr.sum (s.bal + y.profit)
  { rate := rate a.a0 a.a1 a.a2 a.a3 y.price, due := du, paid := pd, arrears := (settle a.a5 s.arr du pd).sum,
    reserve := s.bal + y.profit - pd - max 0 (s.bal + y.profit - pd - a.a4), rebate := max 0 (s.bal + y.profit - pd - a.a4) }
/-- The state behind it. -/
def nextS (a : Ac) (s : St) (y : Yr) : St :=
  let p := nextP a s y
  { bal := p.reserve, arr := settle a.a5 s.arr p.due p.paid }
def stOf (a : Ac) : St → List Yr → St
  | s, [] => s
  | s, y :: l => stOf a (nextS a s y) l
def paysOf (a : Ac) : St → List Yr → List Pm
  | _, [] => []
  | s, y :: l => nextP a s y :: paysOf a (nextS a s y) l
theorem stOf_snoc (a : Ac) : ∀ (l : List Yr) (s : St) (y : Yr), stOf a s (l ++ [y]) = nextS a (stOf a s l) y := by
  intro l
  induction l with
  | nil => intro s y; rfl
  | cons x l ih => intro s y; exact ih _ _
theorem paysOf_length (a : Ac) : ∀ (l : List Yr) (s : St), (paysOf a s l).length = l.length := by
  intro l
  induction l with
  | nil => intro s; rfl
  | cons x l ih => intro s; simp [paysOf, ih]
theorem paysOf_get (a : Ac) : ∀ (l : List Yr) (s : St) (k : Nat) (y : Yr), l[k]? = some y → (paysOf a s l)[k]? = some (nextP a (stOf a s (l.take k)) y) := by
  intro l
  induction l with
  | nil => intro s k y h; simp at h
  | cons x l ih =>
    intro s k y h
    cases k with
    | zero =>
      simp at h
      subst h
      rfl
    | succ k =>
      simp at h
      simpa [paysOf, stOf] using ih (nextS a s x) k y h
theorem paysOf_append (a : Ac) : ∀ (l m : List Yr) (s : St), paysOf a s (l ++ m) = paysOf a s l ++ paysOf a (stOf a s l) m := by
  intro l
  induction l with
  | nil => intro m s; rfl
  | cons x l ih => intro m s; simp [paysOf, stOf, ih]

/-- A state that can be, behind k years. -/
structure StOk (a : Ac) (k : Nat) (s : St) : Prop where
  lo : -(1099511627776 * (k : Int)) ≤ s.bal
  hi : s.bal ≤ 1099511627776
  arr : ArrOk s.arr
theorem due_ok {a : Ac} (h : a.ok) {y : Yr} (hy : YrOk y) : 0 ≤ dueOf a.a0 a.a1 a.a2 a.a3 y.price y.cap ∧ dueOf a.a0 a.a1 a.a2 a.a3 y.price y.cap ≤ 1099511627776 :=
  (dueOf_bd a.a0 a.a1 a.a2 a.a3 y.price y.cap hy.c0 hy.c1).2.2
theorem stOk_next {a : Ac} {k : Nat} {s : St} {y : Yr} (ha : a.ok) (h : StOk a k s) (hy : YrOk y) : StOk a (k + 1) (nextS a s y) := by
  have hd := due_ok ha hy
  have hs := h.arr.sum
  have := h.lo
  have := h.hi
  have := hy.f0
  have := hy.f1
  have h4 : 0 ≤ a.a4 ∧ a.a4 ≤ 1099511627776 := ⟨ha.m0, ha.m1⟩
  refine ⟨?_, ?_, settle_ok h.arr ha.b0 ha.b1 hd.1 hd.2 (by simp only [nextP, paidOf]; omega)⟩
  · simp only [nextS, nextP, paidOf]; omega
  · simp only [nextS, nextP, paidOf]; omega
theorem stOk_of {a : Ac} (ha : a.ok) : ∀ (l : List Yr) (k : Nat) (s : St), StOk a k s → (∀ y ∈ l, YrOk y) → StOk a (k + l.length) (stOf a s l) := by
  intro l
  induction l with
  | nil => intro k s h _; exact h
  | cons x l ih =>
    intro k s h hl
    have := ih (k + 1) _ (stOk_next ha h (hl x List.mem_cons_self)) (fun y hy => hl y (List.mem_cons_of_mem _ hy))
    rw [show k + (x :: l).length = k + 1 + l.length by simp; omega]
    exact this
def st0 : St := { bal := 0, arr := [] }
theorem stOk_0 (a : Ac) : StOk a 0 st0 := ⟨by simp [st0], by simp [st0], ⟨by simp [st0], by simp [st0]⟩⟩
end Go.Proofs.Ytahfmaocihlcnaa
