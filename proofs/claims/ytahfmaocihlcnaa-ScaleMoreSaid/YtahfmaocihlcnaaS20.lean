/- The plain law of the scale, second part: more profit. -/
import Derived.Test.YtahfmaocihlcnaaS16
set_option linter.unusedVariables false
set_option linter.unusedSimpArgs false
namespace Go.Proofs.Ytahfmaocihlcnaa

theorem settle_form {a5 : Int} {r : List Int} {du b : Int} (hr : NN r) (hd : 0 ≤ du) :
    settle a5 r du (paidOf du r.sum b) = (settleOld (max 0 (b - du)) r ++ [max 0 (du - max 0 b)]).drop (r.length + 1 - a5.toNat) := by
  have hs := hr.sum
  unfold settle
  have e1 : max 0 (paidOf du r.sum b - du) = min r.sum (max 0 (b - du)) := by unfold paidOf; omega
  have e2 : max 0 (du - paidOf du r.sum b) = max 0 (du - max 0 b) := by unfold paidOf; omega
  rw [e1, e2, settleOld_cap r _ (by omega) hr]
/-- One state is nowhere worse than another one. -/
structure Bet (s s' : St) : Prop where
  bal : s.bal ≤ s'.bal
  arr : LeL s'.arr s.arr
  n : NN s.arr
  n' : NN s'.arr
theorem bet_next {a : Ac} (ha : a.ok) {s s' : St} {y y' : Yr} (h : Bet s s') (hy : YrOk y) (hp : y'.price = y.price) (hc : y'.cap = y.cap) (hf : y.profit ≤ y'.profit) :
    Bet (nextS a s y) (nextS a s' y') ∧ (nextP a s y).reserve ≤ (nextP a s' y').reserve ∧ (nextP a s' y').arrears ≤ (nextP a s y).arrears ∧ (nextP a s' y').due = (nextP a s y).due := by
  have hd := due_ok ha hy
  have hss := h.arr.sum
  have h0 := h.n.sum
  have h0' := h.n'.sum
  have hb := h.bal
  have e0 : (nextP a s' y').due = (nextP a s y).due := by simp only [nextP, hp, hc]
  have k1 := settle_form (a5 := a.a5) (r := s.arr) (du := (nextP a s y).due) (b := s.bal + y.profit) h.n hd.1
  have k2 := settle_form (a5 := a.a5) (r := s'.arr) (du := (nextP a s y).due) (b := s'.bal + y'.profit) h.n' hd.1
  have m1 := (settle_sum (a5 := a.a5) (r := s.arr) (du := (nextP a s y).due) (b := s.bal + y.profit) h.n hd.1).2
  have m2 := (settle_sum (a5 := a.a5) (r := s'.arr) (du := (nextP a s y).due) (b := s'.bal + y'.profit) h.n' hd.1).2
  have a1 : (nextS a s y).arr = settle a.a5 s.arr (nextP a s y).due (paidOf (nextP a s y).due s.arr.sum (s.bal + y.profit)) := rfl
  have a2 : (nextS a s' y').arr = settle a.a5 s'.arr (nextP a s' y').due (paidOf (nextP a s' y').due s'.arr.sum (s'.bal + y'.profit)) := rfl
  rw [e0] at a2
  have hle : LeL (nextS a s' y').arr (nextS a s y).arr := by
    rw [a1, a2, k1, k2, h.arr.len]
    exact ((settleOld_mono _ _ _ _ h.n' h.n h.arr (by omega) (by omega)).append (c := [max 0 ((nextP a s y).due - max 0 (s'.bal + y'.profit))]) (d := [max 0 ((nextP a s y).due - max 0 (s.bal + y.profit))]) ⟨by omega, trivial⟩).drop _
  have hr : (nextP a s y).reserve ≤ (nextP a s' y').reserve := by
    have e4 : (nextP a s y).reserve = s.bal + y.profit - paidOf (nextP a s y).due s.arr.sum (s.bal + y.profit) - max 0 (s.bal + y.profit - paidOf (nextP a s y).due s.arr.sum (s.bal + y.profit) - a.a4) := rfl
    have e5 : (nextP a s' y').reserve = s'.bal + y'.profit - paidOf (nextP a s' y').due s'.arr.sum (s'.bal + y'.profit) - max 0 (s'.bal + y'.profit - paidOf (nextP a s' y').due s'.arr.sum (s'.bal + y'.profit) - a.a4) := rfl
    have hdd : 0 ≤ (nextP a s y).due := hd.1
    rw [e4, e5, e0]
    unfold paidOf
    omega
  refine ⟨⟨hr, hle, by rw [a1]; exact m1, by rw [a2]; exact m2⟩, hr, hle.sum, e0⟩
theorem bet_run {a : Ac} (ha : a.ok) : ∀ (l : List Yr) (s s' : St), Bet s s' → (∀ y ∈ l, YrOk y) → ∀ (i : Nat) (p p' : Pm), (paysOf a s l)[i]? = some p → (paysOf a s' l)[i]? = some p' → p.reserve ≤ p'.reserve ∧ p'.arrears ≤ p.arrears ∧ p'.due = p.due := by
  intro l
  induction l with
  | nil => intro s s' _ _ i p p' h; simp [paysOf] at h
  | cons y l ih =>
    intro s s' hb hl i p p' h h'
    have hn := bet_next ha hb (hl y List.mem_cons_self) rfl rfl (Int.le_refl y.profit)
    cases i with
    | zero =>
      simp [paysOf] at h h'
      subst h h'
      exact hn.2
    | succ i =>
      simp [paysOf] at h h'
      exact ih _ _ hn.1 (fun z hz => hl z (List.mem_cons_of_mem _ hz)) i p p' h h'
theorem set_split {α : Type} (l : List α) (k : Nat) (x : α) (h : k < l.length) : l.set k x = l.take k ++ x :: l.drop (k + 1) := by
  rw [List.set_eq_take_append_cons_drop, if_pos h]
theorem pays_set (a : Ac) (l : List Yr) (k : Nat) (y' : Yr) (h : k < l.length) :
    paysOf a st0 (l.set k y') = paysOf a st0 (l.take k) ++ nextP a (stOf a st0 (l.take k)) y' :: paysOf a (nextS a (stOf a st0 (l.take k)) y') (l.drop (k + 1)) := by
  rw [set_split l k y' h, paysOf_append]; rfl
/-- With more profit in the year k. -/
theorem more_law {a : Ac} (ha : a.ok) {l : List Yr} (hl : ∀ y ∈ l, YrOk y) {k : Nat} {y y' : Yr} (hk : l[k]? = some y) (hp : y'.price = y.price) (hc : y'.cap = y.cap) (hf : y.profit ≤ y'.profit) :
    (∀ p p', (paysOf a st0 l)[k]? = some p → (paysOf a st0 (l.set k y'))[k]? = some p' → p.paid ≤ p'.paid ∧ p.rebate ≤ p'.rebate) ∧
    (∀ i p p', (paysOf a st0 l)[i]? = some p → (paysOf a st0 (l.set k y'))[i]? = some p' → (i < k → p' = p) ∧ p.reserve ≤ p'.reserve ∧ p'.arrears ≤ p.arrears ∧ p'.due = p.due) := by
  have hkl := (List.getElem?_eq_some_iff.1 hk).1
  have hy := hl y (List.mem_of_getElem? hk)
  have hse : l = l.set k y := by
    have := (List.getElem?_eq_some_iff.1 hk).2
    rw [← this, List.set_getElem_self]
  have hpl : (paysOf a st0 (l.take k)).length = k := by rw [paysOf_length, List.length_take]; omega
  have e1 := pays_set a l k y hkl
  rw [← hse] at e1
  have e2 := pays_set a l k y' hkl
  have hst := stOk_of ha (l.take k) 0 st0 (stOk_0 a) (fun z hz => hl z (List.mem_of_mem_take hz))
  generalize stOf a st0 (l.take k) = s at *
  have hb : Bet s s := ⟨Int.le_refl _, LeL.rfl' _, hst.arr.nn, hst.arr.nn⟩
  have hn := bet_next ha hb hy hp hc hf
  have hs0 := hst.arr.nn.sum
  have hd := due_ok ha hy
  refine ⟨fun p p' h h' => ?_, fun i p p' h h' => ?_⟩
  · rw [e1, List.getElem?_append_right (by omega), hpl, Nat.sub_self] at h
    rw [e2, List.getElem?_append_right (by omega), hpl, Nat.sub_self] at h'
    simp at h h'
    subst h h'
    have e0 := hn.2.2.2
    have f1 : (nextP a s y).paid = paidOf (nextP a s y).due s.arr.sum (s.bal + y.profit) := rfl
    have f2 : (nextP a s y').paid = paidOf (nextP a s y').due s.arr.sum (s.bal + y'.profit) := rfl
    have f3 : (nextP a s y).rebate = max 0 (s.bal + y.profit - (nextP a s y).paid - a.a4) := rfl
    have f4 : (nextP a s y').rebate = max 0 (s.bal + y'.profit - (nextP a s y').paid - a.a4) := rfl
    rw [e0] at f2
    have hdd : 0 ≤ (nextP a s y).due := hd.1
    unfold paidOf at f1 f2
    omega
  · by_cases hi : i < k
    · rw [e1, List.getElem?_append_left (by omega)] at h
      rw [e2, List.getElem?_append_left (by omega)] at h'
      rw [h] at h'
      cases h'
      exact ⟨fun _ => rfl, Int.le_refl _, Int.le_refl _, rfl⟩
    · refine ⟨fun h => absurd h hi, ?_⟩
      rw [e1, List.getElem?_append_right (by omega), hpl] at h
      rw [e2, List.getElem?_append_right (by omega), hpl] at h'
      cases hik : i - k with
      | zero =>
        rw [hik] at h h'
        simp at h h'
        subst h h'
        exact hn.2
      | succ m =>
        rw [hik] at h h'
        simp at h h'
        exact bet_run ha _ _ _ hn.1 (fun z hz => hl z (List.mem_of_mem_drop hz)) m p p' h h'
/-- With what is needed all is paid; with a farthing less it is not. -/
theorem need_law {a : Ac} (ha : a.ok) {l : List Yr} (hl : ∀ y ∈ l, YrOk y) {k : Nat} {y : Yr} (hk : l[k]? = some y) (n : Int)
    (ow : Int) (how : ow = dueOf a.a0 a.a1 a.a2 a.a3 y.price y.cap + (stOf a st0 (l.take k)).arr.sum) (hpos : 0 < ow) (hn : n = ow - (stOf a st0 (l.take k)).bal) :
    (∀ p, (paysOf a st0 (l.set k { y with profit := n }))[k]? = some p → p.paid = ow ∧ p.arrears = 0 ∧ p.rebate = 0) ∧ (∀ p, (paysOf a st0 (l.set k { y with profit := n - 1 }))[k]? = some p → p.paid = ow - 1) := by
  have hkl := (List.getElem?_eq_some_iff.1 hk).1
  have hy := hl y (List.mem_of_getElem? hk)
  have hpl : (paysOf a st0 (l.take k)).length = k := by rw [paysOf_length, List.length_take]; omega
  have hst := stOk_of ha (l.take k) 0 st0 (stOk_0 a) (fun z hz => hl z (List.mem_of_mem_take hz))
  have e1 := pays_set a l k { y with profit := n } hkl
  have e2 := pays_set a l k { y with profit := n - 1 } hkl
  generalize stOf a st0 (l.take k) = s at *
  have hs0 := hst.arr.nn.sum
  have hd := (due_ok ha hy).1
  have hm := ha.m0
  refine ⟨fun p h => ?_, fun p h => ?_⟩
  · rw [e1, List.getElem?_append_right (by omega), hpl, Nat.sub_self] at h
    simp at h
    subst h
    have hs := settle_sum (a5 := a.a5) (r := s.arr) (du := dueOf a.a0 a.a1 a.a2 a.a3 y.price y.cap) (b := s.bal + n) hst.arr.nn hd
    have hs1 := hs.1
    have hs2 := hs.2.sum
    simp only [nextP]
    generalize (settle a.a5 s.arr (dueOf a.a0 a.a1 a.a2 a.a3 y.price y.cap) (paidOf (dueOf a.a0 a.a1 a.a2 a.a3 y.price y.cap) s.arr.sum (s.bal + n))).sum = S at *
    unfold paidOf at *
    omega
  · rw [e2, List.getElem?_append_right (by omega), hpl, Nat.sub_self] at h
    simp at h
    subst h
    simp only [nextP, paidOf]
    omega
end Go.Proofs.Ytahfmaocihlcnaa
