/- The plain law of the scale: what is paid, what is owed, and how the years depend on the profit. -/
import Derived.Test.YtahfmaocihlcnaaS15
set_option linter.unusedVariables false
set_option linter.unusedSimpArgs false
namespace Go.Proofs.Ytahfmaocihlcnaa

def NN (r : List Int) : Prop := ∀ x ∈ r, 0 ≤ x
theorem NN.tail {x : Int} {r : List Int} (h : NN (x :: r)) : 0 ≤ x ∧ NN r := ⟨h x List.mem_cons_self, fun y hy => h y (List.mem_cons_of_mem _ hy)⟩
theorem NN.sum {r : List Int} (h : NN r) : 0 ≤ r.sum := by
  induction r with
  | nil => simp
  | cons x r ih =>
    have := ih h.tail.2
    have := h.tail.1
    simp only [List.sum_cons]; omega
theorem ArrOk.nn {r : List Int} (h : ArrOk r) : NN r := fun x hx => (h.2 x hx).1
theorem drop_sum_le {r : List Int} (h : NN r) (k : Nat) : (r.drop k).sum ≤ r.sum := by
  have h1 : 0 ≤ (r.take k).sum := NN.sum (fun x hx => h x (List.mem_of_mem_take hx))
  have h2 : (r.take k ++ r.drop k).sum = r.sum := by rw [List.take_append_drop]
  rw [List.sum_append] at h2
  omega
theorem settleOld_sum (xs : List Int) : ∀ p, 0 ≤ p → NN xs → p ≤ xs.sum → (settleOld p xs).sum = xs.sum - p := by
  induction xs with
  | nil => intro p h _ h2; simp at h2; simp [settleOld]; omega
  | cons x xs ih =>
    intro p h hx h2
    have hs := hx.tail.2.sum
    have h0 := hx.tail.1
    simp only [List.sum_cons] at h2
    simp only [settleOld, List.sum_cons]
    rw [ih (p - min p x) (by omega) hx.tail.2 (by omega)]
    omega

/-- One list lies nowhere above another one. -/
def LeL : List Int → List Int → Prop
  | [], [] => True
  | x :: xs, y :: ys => x ≤ y ∧ LeL xs ys
  | _, _ => False
theorem LeL.len : ∀ {a b : List Int}, LeL a b → a.length = b.length
  | [], [], _ => rfl
  | _ :: _, _ :: _, h => by simp [LeL.len h.2]
  | [], _ :: _, h => h.elim
  | _ :: _, [], h => h.elim
theorem LeL.rfl' : ∀ (a : List Int), LeL a a
  | [] => trivial
  | _ :: r => ⟨Int.le_refl _, LeL.rfl' r⟩
theorem LeL.trans : ∀ {a b c : List Int}, LeL a b → LeL b c → LeL a c
  | [], [], [], _, _ => trivial
  | _ :: _, _ :: _, _ :: _, h, k => ⟨Int.le_trans h.1 k.1, LeL.trans h.2 k.2⟩
  | [], _ :: _, _, h, _ => h.elim
  | _ :: _, [], _, h, _ => h.elim
  | _, [], _ :: _, _, k => k.elim
  | _, _ :: _, [], _, k => k.elim
theorem LeL.append : ∀ {a b c d : List Int}, LeL a b → LeL c d → LeL (a ++ c) (b ++ d)
  | [], [], _, _, _, k => k
  | _ :: _, _ :: _, _, _, h, k => ⟨h.1, LeL.append h.2 k⟩
  | [], _ :: _, _, _, h, _ => h.elim
  | _ :: _, [], _, _, h, _ => h.elim
theorem LeL.drop : ∀ (k : Nat) {a b : List Int}, LeL a b → LeL (a.drop k) (b.drop k)
  | 0, _, _, h => h
  | _ + 1, [], [], _ => trivial
  | k + 1, _ :: _, _ :: _, h => LeL.drop k h.2
  | _ + 1, [], _ :: _, h => h.elim
  | _ + 1, _ :: _, [], h => h.elim
theorem LeL.sum : ∀ {a b : List Int}, LeL a b → a.sum ≤ b.sum
  | [], [], _ => Int.le_refl _
  | _ :: _, _ :: _, h => by have := LeL.sum h.2; have := h.1; simp only [List.sum_cons]; omega
  | [], _ :: _, h => h.elim
  | _ :: _, [], h => h.elim
theorem settleOld_le (xs : List Int) : ∀ p, 0 ≤ p → NN xs → LeL (settleOld p xs) xs := by
  induction xs with
  | nil => intro p _ _; trivial
  | cons x xs ih =>
    intro p h hx
    have := hx.tail.1
    exact ⟨by omega, ih _ (by omega) hx.tail.2⟩
/-- More that is paid of less leaves less. -/
theorem settleOld_mono : ∀ (xs ys : List Int) (p q : Int), NN xs → NN ys → LeL xs ys → 0 ≤ q → q ≤ p → LeL (settleOld p xs) (settleOld q ys)
  | [], [], _, _, _, _, _, _, _ => trivial
  | x :: xs, y :: ys, p, q, hx, hy, h, h0, hq => by
    have := hx.tail.1
    have := hy.tail.1
    have := h.1
    exact ⟨by omega, settleOld_mono xs ys _ _ hx.tail.2 hy.tail.2 h.2 (by omega) (by omega)⟩
  | [], _ :: _, _, _, _, _, h, _, _ => h.elim
  | _ :: _, [], _, _, _, _, h, _, _ => h.elim
/-- What is paid beyond all that is owed makes no difference. -/
theorem settleOld_cap (xs : List Int) : ∀ q, 0 ≤ q → NN xs → settleOld (min xs.sum q) xs = settleOld q xs := by
  induction xs with
  | nil => intro q _ _; rfl
  | cons x xs ih =>
    intro q h hx
    have hs := hx.tail.2.sum
    have h0 := hx.tail.1
    simp only [settleOld, List.sum_cons]
    have e1 : min (min (x + xs.sum) q) x = min q x := by omega
    rw [e1, ← ih (q - min q x) (by omega) hx.tail.2]
    congr 2
    omega

/-- The arrears, each at most what was due in its year. -/
structure ArrInv (a : Ac) (s : St) (ds : List Int) : Prop where
  len : s.arr.length ≤ a.a5.toNat
  le : s.arr.length ≤ ds.length
  el : LeL s.arr (ds.drop (ds.length - s.arr.length))
theorem settle_sum {a5 : Int} {r : List Int} {du b : Int} (hr : NN r) (hd : 0 ≤ du) : (settle a5 r du (paidOf du r.sum b)).sum ≤ r.sum + du - paidOf du r.sum b ∧ NN (settle a5 r du (paidOf du r.sum b)) := by
  have hs := hr.sum
  have hn : NN (settleOld (max 0 (paidOf du r.sum b - du)) r ++ [max 0 (du - paidOf du r.sum b)]) := by
    intro x hx
    rcases List.mem_append.1 hx with h | h
    · have key : ∀ (l : List Int) (p : Int), NN l → NN (settleOld p l) := by
        intro l
        induction l with
        | nil => intro p _ x hx; cases hx
        | cons y l ih =>
          intro p hl x hx
          have := hl.tail.1
          rcases List.mem_cons.1 hx with h | h
          · omega
          · exact ih _ hl.tail.2 x h
      exact key r _ hr x h
    · simp at h; omega
  refine ⟨?_, fun x hx => hn x (List.mem_of_mem_drop hx)⟩
  have h1 := drop_sum_le hn (r.length + 1 - a5.toNat)
  rw [List.sum_append, settleOld_sum r _ (by omega) hr (by unfold paidOf; omega)] at h1
  unfold settle
  simp only [List.sum_cons, List.sum_nil] at h1
  unfold paidOf at *
  omega
theorem arrInv_next {a : Ac} {s : St} {y : Yr} {ds : List Int} (hd : 0 ≤ (nextP a s y).due) (hn : NN s.arr) (h : ArrInv a s ds) : ArrInv a (nextS a s y) (ds ++ [(nextP a s y).due]) := by
  obtain ⟨h1, h2, h3⟩ := h
  have hl := h3.len
  have hp : 0 ≤ (nextP a s y).paid := by simp only [nextP, paidOf]; omega
  have e : (nextS a s y).arr = (settleOld (max 0 ((nextP a s y).paid - (nextP a s y).due)) s.arr ++ [max 0 ((nextP a s y).due - (nextP a s y).paid)]).drop (s.arr.length + 1 - a.a5.toNat) := rfl
  generalize (nextP a s y).due = du at *
  generalize (nextP a s y).paid = pd at *
  have k1 := (((settleOld_le s.arr (max 0 (pd - du)) (by omega) hn).trans h3).append (c := [max 0 (du - pd)]) (d := [du]) ⟨by omega, trivial⟩).drop (s.arr.length + 1 - a.a5.toNat)
  have hlen : (nextS a s y).arr.length = s.arr.length + 1 - (s.arr.length + 1 - a.a5.toNat) := by
    rw [e, List.length_drop, List.length_append, settleOld_length]; simp
  refine ⟨by omega, by rw [hlen]; simp; omega, ?_⟩
  rw [hlen]
  rw [e]
  have e2 : ds.drop (ds.length - s.arr.length) ++ [du] = (ds ++ [du]).drop (ds.length - s.arr.length) := by
    rw [List.drop_append_of_le_length (by omega)]
  rw [e2, List.drop_drop] at k1
  have e3 : (ds ++ [du]).length - (s.arr.length + 1 - (s.arr.length + 1 - a.a5.toNat)) = ds.length - s.arr.length + (s.arr.length + 1 - a.a5.toNat) := by simp; omega
  rw [e3]
  exact k1

theorem st_nn {a : Ac} (ha : a.ok) (l : List Yr) (hl : ∀ y ∈ l, YrOk y) : NN (stOf a st0 l).arr := (stOk_of ha l 0 st0 (stOk_0 a) hl).arr.nn
theorem arrInv_of {a : Ac} (ha : a.ok) : ∀ (l : List Yr) (s : St) (ds : List Int) (k : Nat), StOk a k s → (∀ y ∈ l, YrOk y) → ArrInv a s ds → ArrInv a (stOf a s l) (ds ++ (paysOf a s l).map Pm.due) := by
  intro l
  induction l with
  | nil => intro s ds k _ _ h; simpa [stOf, paysOf] using h
  | cons y l ih =>
    intro s ds k hs hl h
    have hy := hl y List.mem_cons_self
    have := ih (nextS a s y) (ds ++ [(nextP a s y).due]) (k + 1) (stOk_next ha hs hy) (fun z hz => hl z (List.mem_cons_of_mem _ hz)) (arrInv_next (due_ok ha hy).1 hs.arr.nn h)
    simpa [stOf, paysOf] using this
theorem win_of {a : Ac} (ha : a.ok) : ∀ (l : List Yr) (s : St) (k : Nat), StOk a k s → (∀ y ∈ l, YrOk y) →
    ((paysOf a s l).map Pm.paid).sum + (stOf a s l).arr.sum ≤ ((paysOf a s l).map Pm.due).sum + s.arr.sum := by
  intro l
  induction l with
  | nil => intro s k _ _; simp [stOf, paysOf]
  | cons y l ih =>
    intro s k hs hl
    have hy := hl y List.mem_cons_self
    have h1 := ih (nextS a s y) (k + 1) (stOk_next ha hs hy) (fun z hz => hl z (List.mem_cons_of_mem _ hz))
    have h2 := (settle_sum (a5 := a.a5) (r := s.arr) (du := (nextP a s y).due) (b := s.bal + y.profit) hs.arr.nn (due_ok ha hy).1).1
    have e1 : (nextS a s y).arr.sum ≤ s.arr.sum + (nextP a s y).due - (nextP a s y).paid := h2
    simp only [paysOf, stOf, List.map_cons, List.sum_cons]
    omega

/-- The sum of something of the payments from i on, and below j. -/
def psum (f : Pm → Int) (ps : List Pm) (i j : Nat) : Int := (((ps.take j).drop i).map f).sum
theorem psum_self (f : Pm → Int) (ps : List Pm) (i j : Nat) (h : j ≤ i) : psum f ps i j = 0 := by
  unfold psum
  rw [List.drop_eq_nil_of_le (by rw [List.length_take]; omega)]
  rfl
theorem psum_succ (f : Pm → Int) (ps : List Pm) (i j : Nat) (p : Pm) (h : i ≤ j) (hj : ps[j]? = some p) : psum f ps i (j + 1) = psum f ps i j + f p := by
  unfold psum
  rw [List.take_add_one, hj]
  have hjl := (List.getElem?_eq_some_iff.1 hj).1
  rw [List.drop_append_of_le_length (by rw [List.length_take]; omega), List.map_append, List.sum_append]
  simp
theorem psum_nn (f : Pm → Int) (ps : List Pm) (h : ∀ p ∈ ps, 0 ≤ f p) (i j : Nat) : 0 ≤ psum f ps i j := by
  refine NN.sum fun x hx => ?_
  obtain ⟨p, hp, rfl⟩ := List.mem_map.1 hx
  exact h p (List.mem_of_mem_take (List.mem_of_mem_drop hp))
theorem paysOf_drop (a : Ac) (l : List Yr) (i : Nat) : paysOf a st0 l = paysOf a st0 (l.take i) ++ paysOf a (stOf a st0 (l.take i)) (l.drop i) := by
  rw [← paysOf_append, List.take_append_drop]
theorem paysOf_take (a : Ac) (l : List Yr) (k : Nat) : (paysOf a st0 l).take k = paysOf a st0 (l.take k) := by
  rw [paysOf_drop a l k]
  by_cases h : k ≤ l.length
  · rw [List.take_append_of_le_length (by rw [paysOf_length, List.length_take]; omega), List.take_of_length_le (by rw [paysOf_length, List.length_take]; omega)]
  · rw [List.drop_eq_nil_of_le (by omega)]
    simp only [paysOf, List.append_nil]
    rw [List.take_of_length_le (by rw [paysOf_length, List.length_take]; omega)]
theorem due_nn {a : Ac} (ha : a.ok) : ∀ (l : List Yr) (s : St), (∀ y ∈ l, YrOk y) → ∀ p ∈ paysOf a s l, 0 ≤ p.due := by
  intro l
  induction l with
  | nil => intro s _ p hp; cases hp
  | cons y l ih =>
    intro s hl p hp
    rcases List.mem_cons.1 hp with h | h
    · subst h; exact (due_ok ha (hl y List.mem_cons_self)).1
    · exact ih _ (fun z hz => hl z (List.mem_cons_of_mem _ hz)) p h

theorem window {a : Ac} (ha : a.ok) (l : List Yr) (hl : ∀ y ∈ l, YrOk y) (i k : Nat) (hk : k < l.length) :
    psum Pm.paid (paysOf a st0 l) i (k + 1) ≤ psum Pm.due (paysOf a st0 l) (i - a.a5.toNat) (k + 1) := by
  have hdn := due_nn ha l st0 hl
  by_cases hik : i ≤ k
  · have hti : ∀ y ∈ l.take i, YrOk y := fun y hy => hl y (List.mem_of_mem_take hy)
    have hst := stOk_of ha (l.take i) 0 st0 (stOk_0 a) hti
    have hw := win_of ha ((l.take (k + 1)).drop i) (stOf a st0 (l.take i)) _ hst (fun y hy => hl y (List.mem_of_mem_take (List.mem_of_mem_drop hy)))
    have hi := arrInv_of ha (l.take i) st0 [] 0 (stOk_0 a) hti ⟨by simp [st0], by simp [st0], by simp [st0, LeL]⟩
    simp only [List.nil_append] at hi
    have hsum := hi.el.sum
    have hlen : ((paysOf a st0 (l.take i)).map Pm.due).length = i := by rw [List.length_map, paysOf_length, List.length_take]; omega
    have hlb := hi.len
    have hli := hi.le
    rw [hlen] at hsum hli
    have hnn : 0 ≤ (stOf a (stOf a st0 (l.take i)) ((l.take (k + 1)).drop i)).arr.sum :=
      (stOk_of ha _ _ _ hst (fun y hy => hl y (List.mem_of_mem_take (List.mem_of_mem_drop hy)))).arr.nn.sum
    have e1 : (paysOf a st0 l).take (k + 1) = paysOf a st0 (l.take i) ++ paysOf a (stOf a st0 (l.take i)) ((l.take (k + 1)).drop i) := by
      rw [paysOf_take, paysOf_drop a (l.take (k + 1)) i, List.take_take, Nat.min_eq_left (by omega)]
    have hpl : (paysOf a st0 (l.take i)).length = i := by rw [paysOf_length, List.length_take]; omega
    have e2 : psum Pm.paid (paysOf a st0 l) i (k + 1) = ((paysOf a (stOf a st0 (l.take i)) ((l.take (k + 1)).drop i)).map Pm.paid).sum := by
      unfold psum
      rw [e1, List.drop_append, hpl, Nat.sub_self, List.drop_eq_nil_of_le (by omega)]
      rfl
    have e3 : psum Pm.due (paysOf a st0 l) (i - a.a5.toNat) (k + 1) = (((paysOf a st0 (l.take i)).map Pm.due).drop (i - a.a5.toNat)).sum + ((paysOf a (stOf a st0 (l.take i)) ((l.take (k + 1)).drop i)).map Pm.due).sum := by
      unfold psum
      rw [e1, List.drop_append_of_le_length (by omega), List.map_append, List.sum_append, List.map_drop]
    have hd : (((paysOf a st0 (l.take i)).map Pm.due).drop (i - (stOf a st0 (l.take i)).arr.length)).sum ≤ (((paysOf a st0 (l.take i)).map Pm.due).drop (i - a.a5.toNat)).sum := by
      have hN : NN (((paysOf a st0 (l.take i)).map Pm.due).drop (i - a.a5.toNat)) := fun x hx => by
        obtain ⟨p, hp, rfl⟩ := List.mem_map.1 (List.mem_of_mem_drop hx)
        exact due_nn ha _ _ hti p hp
      have := drop_sum_le hN ((i - (stOf a st0 (l.take i)).arr.length) - (i - a.a5.toNat))
      rw [List.drop_drop] at this
      rwa [show i - a.a5.toNat + (i - (stOf a st0 (l.take i)).arr.length - (i - a.a5.toNat)) = i - (stOf a st0 (l.take i)).arr.length by omega] at this
    omega
  · rw [psum_self _ _ _ _ (by omega)]
    exact psum_nn _ _ hdn _ _

/-- What a year comes to, as the law asks it. -/
theorem year_law {a : Ac} (ha : a.ok) {k : Nat} {s : St} (hs : StOk a k s) (hk : k ≤ 16) {y : Yr} (hy : YrOk y) :
    let x := nextP a s y
    x.paid + x.rebate + x.reserve = s.bal + y.profit ∧ x.reserve ≤ a.a4 ∧ 0 ≤ x.arrears ∧ 0 ≤ x.paid ∧ 0 ≤ x.rebate ∧ (0 < x.arrears → x.reserve ≤ 0 ∧ x.rebate ≤ 0) ∧ 0 ≤ x.rate ∧ x.rate ≤ 10000 ∧ (0 < x.rebate → x.reserve = a.a4) ∧
      x.due * 10000 ≤ y.cap * x.rate ∧ y.cap * x.rate < (x.due + 1) * 10000 ∧ 0 ≤ x.due ∧ x.due ≤ 1099511627776 ∧ x.paid ≤ 7 * 1099511627776 ∧ x.rebate ≤ 2 * 1099511627776 ∧ -(1099511627776 * 17) ≤ x.reserve ∧ x.arrears ≤ 7 * 1099511627776 ∧ (nextS a s y).bal = x.reserve ∧ (nextS a s y).arr.sum = x.arrears := by
  intro x
  have hd := due_ok ha hy
  have hr := rate_bd a.a0 a.a1 a.a2 a.a3 y.price
  have hss := hs.arr.sum
  have hst := settle_sum (a5 := a.a5) (r := s.arr) (du := dueOf a.a0 a.a1 a.a2 a.a3 y.price y.cap) (b := s.bal + y.profit) hs.arr.nn hd.1
  have hst0 := hst.2.sum
  have hst1 := hst.1
  have h1 := hs.lo
  have h2 := hs.hi
  have h3 := hy.f0
  have h4 := hy.f1
  have h5 := ha.m0
  have h6 := ha.m1
  have hdd : dueOf a.a0 a.a1 a.a2 a.a3 y.price y.cap * 10000 ≤ y.cap * rate a.a0 a.a1 a.a2 a.a3 y.price ∧ y.cap * rate a.a0 a.a1 a.a2 a.a3 y.price < (dueOf a.a0 a.a1 a.a2 a.a3 y.price y.cap + 1) * 10000 := by
    unfold dueOf; omega
  have e1 : x.due = dueOf a.a0 a.a1 a.a2 a.a3 y.price y.cap := rfl
  have e2 : x.paid = paidOf (dueOf a.a0 a.a1 a.a2 a.a3 y.price y.cap) s.arr.sum (s.bal + y.profit) := rfl
  have e3 : x.arrears = (settle a.a5 s.arr (dueOf a.a0 a.a1 a.a2 a.a3 y.price y.cap) (paidOf (dueOf a.a0 a.a1 a.a2 a.a3 y.price y.cap) s.arr.sum (s.bal + y.profit))).sum := rfl
  have e4 : x.reserve = s.bal + y.profit - x.paid - max 0 (s.bal + y.profit - x.paid - a.a4) := rfl
  have e5 : x.rebate = max 0 (s.bal + y.profit - x.paid - a.a4) := rfl
  have e6 : x.rate = rate a.a0 a.a1 a.a2 a.a3 y.price := rfl
  have e7 : (nextS a s y).bal = x.reserve := rfl
  have e8 : (nextS a s y).arr.sum = x.arrears := rfl
  rw [← e6] at hdd hr
  rw [← e1] at hdd hd e2 e3 hst0 hst1
  rw [← e2] at e3 hst0 hst1
  rw [← e3] at hst0 hst1
  unfold paidOf at e2
  generalize s.arr.sum = S at *
  refine ⟨by omega, by omega, by omega, by omega, by omega, fun _ => by omega, by omega, by omega, fun _ => by omega, hdd.1, hdd.2, hd.1, hd.2, by omega, by omega, by omega, by omega, e7, e8⟩
end Go.Proofs.Ytahfmaocihlcnaa
