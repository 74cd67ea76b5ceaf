/- Parts of the walk of ScaleWhole. -/
import Derived.Test.YtahfmaocihlcnaaS17
set_option linter.unusedVariables false
set_option linter.unusedSimpArgs false
namespace Go.Proofs.Ytahfmaocihlcnaa
open Go.RowKit Go.Shelf GW Go.Proofs.YtahfmaocihlcnaaW.PrintWords Go.Proofs.YtahfmaocihlcnaaW.PrintLast Go.Proofs.YtahfmaocihlcnaaW.PrintMore
attribute [local go_sem] max_ii min_ii

theorem act_yes (a : Ac) (ha : a.ok) (w : World) : Calls Try.prog 7 #[.agg #[(Value.int .i64 a.a0), (Value.int .i64 a.a1), (Value.int .i64 a.a2), (Value.int .i64 a.a3), (Value.int .i64 a.a4), (Value.int .i64 a.a5)]] w fun e w' => e = .returned (.bool true) ∧ Below w.heap.size w w' := by
  have := act_any a w
  rwa [a.okB_iff.2 ha] at this
theorem pay_bd {a : Ac} (ha : a.ok) {ys : List Yr} (hys : ∀ y ∈ ys, YrOk y) (hlen : ys.length ≤ 16) {J : Nat} {x : Pm} (hx : (paysOf a st0 ys)[J]? = some x) :
    0 ≤ x.paid ∧ x.paid ≤ 7696581394432 ∧ 0 ≤ x.due ∧ x.due ≤ 1099511627776 := by
  have hJ : J < ys.length := by have := (List.getElem?_eq_some_iff.1 hx).1; rwa [paysOf_length] at this
  have hy : ys[J]? = some ys[J] := List.getElem?_eq_getElem hJ
  have hst := stOk_of ha (ys.take J) 0 st0 (stOk_0 a) (fun z hz => hys z (List.mem_of_mem_take hz))
  have hlk : (ys.take J).length = J := by rw [List.length_take]; omega
  rw [Nat.zero_add, hlk] at hst
  rw [paysOf_get a ys st0 J _ hy] at hx
  have hx := Option.some.inj hx
  subst hx
  obtain ⟨q1, q2, q3, q4, q5, q6, q7, q8, q9, q10, q11, q12, q13, q14, q15, q16, q17, q18, q19⟩ := year_law ha hst (by omega) (hys _ (List.getElem_mem hJ))
  exact ⟨q4, by omega, q12, q13⟩
/-- The fields of a payment, by their numbers. -/
def Pm.get (x : Pm) : Nat → Int
  | 0 => x.rate
  | 1 => x.due
  | 2 => x.paid
  | 3 => x.arrears
  | 4 => x.reserve
  | _ => x.rebate
def Pm.put (x : Pm) (v : Int) : Nat → Pm
  | 0 => { x with rate := v }
  | 1 => { x with due := v }
  | 2 => { x with paid := v }
  | 3 => { x with arrears := v }
  | 4 => { x with reserve := v }
  | _ => { x with rebate := v }
theorem pm_cells_get (x : Pm) (r : Nat) (hr : r < 6) : x.cells[r]? = some (.int .i64 (x.get r)) := by
  rcases r with _ | _ | _ | _ | _ | _ | r <;> first | rfl | omega
theorem pm_put_cells (x : Pm) (v : Int) (r : Nat) (hr : r < 6) : (x.put v r).cells = x.cells.set r (.int .i64 v) := by
  rcases r with _ | _ | _ | _ | _ | _ | r <;> first | rfl | omega
theorem pm_put_ne (x : Pm) (v : Int) (r : Nat) (hr : r < 6) (hv : x.get r < v) : x.put v r ≠ x := by
  rcases r with _ | _ | _ | _ | _ | _ | r <;> first | omega | (intro h; have h1 := congrArg Pm.rate h; have h2 := congrArg Pm.due h; have h3 := congrArg Pm.paid h; have h4 := congrArg Pm.arrears h; have h5 := congrArg Pm.reserve h; have h6 := congrArg Pm.rebate h; simp only [Pm.put, Pm.get] at *; omega)
theorem get_bd {a : Ac} (ha : a.ok) {ys : List Yr} (hys : ∀ y ∈ ys, YrOk y) (hlen : ys.length ≤ 16) {J : Nat} {x : Pm} (hx : (paysOf a st0 ys)[J]? = some x) (r : Nat) :
    -20000000000000 ≤ x.get r ∧ x.get r ≤ 20000000000000 := by
  have hJ : J < ys.length := by have := (List.getElem?_eq_some_iff.1 hx).1; rwa [paysOf_length] at this
  have hy : ys[J]? = some ys[J] := List.getElem?_eq_getElem hJ
  have hst := stOk_of ha (ys.take J) 0 st0 (stOk_0 a) (fun z hz => hys z (List.mem_of_mem_take hz))
  have hlk : (ys.take J).length = J := by rw [List.length_take]; omega
  rw [Nat.zero_add, hlk] at hst
  rw [paysOf_get a ys st0 J _ hy] at hx
  have hx := Option.some.inj hx
  subst hx
  obtain ⟨q1, q2, q3, q4, q5, q6, q7, q8, q9, q10, q11, q12, q13, q14, q15, q16, q17, q18, q19⟩ := year_law ha hst (by omega) (hys _ (List.getElem_mem hJ))
  have := ha.m1
  rcases r with _ | _ | _ | _ | _ | r <;> simp only [Pm.get] <;> omega
theorem getElem?_set_cases {α : Type} (xs : List α) (i j : Nat) (x : α) (h : i < xs.length) : (xs.set i x)[j]? = if i = j then some x else xs[j]? := by
  rw [List.getElem?_set]
  by_cases e : i = j
  · subst e; simp [h]
  · simp [e]
/-- One cell of a row stored anew. -/
theorem rec_store {α : Type} {n : Nat} {enc : α → List Value} {hn : ∀ x, (enc x).length = n} {h1 : ∀ x, ∀ u ∈ enc x, u.oneCell' = true} {w : World} {g m : Nat} {xs : List α} (h : Kd.C (recK n enc hn h1) w (some ⟨g, 0, none⟩) m xs)
    {cs : Array Value} {t : TypeId} {fr : Nat × Nat} (hb : w.heap[g]? = some (.cells cs t fr)) (i r : Nat) (x x' : α) (hx : xs[i]? = some x) (hr : r < n) (u : Value) (he : enc x' = (enc x).set r u) :
    Kd.C (recK n enc hn h1) (w.setCell ⟨g, i * n + r, none⟩ u) (some ⟨g, 0, none⟩) m (xs.set i x') := by
  obtain ⟨hl, hm, hc⟩ := h
  have hil : i < xs.length := (List.getElem?_eq_some_iff.1 hx).1
  refine ⟨by rw [List.length_set]; exact hl, hm, fun h0 => ?_⟩
  obtain ⟨ad, e, hc⟩ := hc h0
  cases e
  refine ⟨_, rfl, fun j p hp => ⟨enc p, hn p, rfl, fun q v hv => ?_⟩⟩
  have hqn : q < n := by rw [← hn p]; exact (List.getElem?_eq_some_iff.1 hv).1
  have ha : ∀ k, ((⟨g, 0, none⟩ : Addr).add k) = ⟨g, k, none⟩ := by
    intro k
    unfold Addr.add
    split
    · rename_i h; subst h; rfl
    · simp
  have hcell : ∀ (k : Nat) (W : World) (cs : Array Value) (t : TypeId) (fr : Nat × Nat), W.heap[g]? = some (.cells cs t fr) → W.cell? ⟨g, k, none⟩ = cs[k]? := fun k W cs t fr hW => by simp [World.cell?, hW]
  have hset : (w.setCell ⟨g, i * n + r, none⟩ u).heap[g]? = some (.cells (cs.setIfInBounds (i * n + r) u) t fr) := by simp [World.setCell, Array.getElem?_modify, hb]
  show (w.setCell ⟨g, i * n + r, none⟩ u).cell? ((⟨g, 0, none⟩ : Addr).add (j * n + q)) = some v
  rw [ha, hcell _ _ _ _ _ hset]
  rw [getElem?_set_cases _ _ _ _ hil] at hp
  have hold : ∀ (j' : Nat) (p' : α) (q' : Nat) (v' : Value), xs[j']? = some p' → (enc p')[q']? = some v' → cs[j' * n + q']? = some v' := fun j' p' q' v' h1 h2 => by
    obtain ⟨c', hc1, hK, hcc⟩ := hc j' p' h1
    obtain rfl : c' = enc p' := hK
    have := hcc q' v' h2
    rw [show (recK n enc hn ‹_›).sz = n from rfl, ha, hcell _ _ _ _ _ hb] at this
    exact this
  by_cases hij : i = j
  · subst hij
    rw [if_pos rfl] at hp
    cases hp
    rw [he, List.getElem?_set] at hv
    by_cases hqr : r = q
    · subst hqr
      have hlt : r < (enc x).length := by rw [hn]; exact hr
      rw [if_pos rfl, if_pos hlt] at hv
      have hin := hold i x r _ hx (List.getElem?_eq_getElem hlt)
      have hsz := (Array.getElem?_eq_some_iff.1 hin).1
      rw [Array.getElem?_setIfInBounds, if_pos rfl, if_pos hsz]
      exact hv
    · rw [if_neg hqr] at hv
      rw [Array.getElem?_setIfInBounds, if_neg (by omega)]
      exact hold i x q v hx hv
  · rw [if_neg hij] at hp
    have hne : i * n + r ≠ j * n + q := by
      intro e
      have e1 : (i * n + r) / n = i := by rw [Nat.mul_comm, Nat.mul_add_div (by omega), Nat.div_eq_of_lt hr]; rfl
      have e2 : (j * n + q) / n = j := by rw [Nat.mul_comm, Nat.mul_add_div (by omega), Nat.div_eq_of_lt hqn]; rfl
      rw [e, e2] at e1
      exact hij e1.symm
    rw [Array.getElem?_setIfInBounds, if_neg hne]
    exact hold j p q v hp hv

/-- Check's answers: at what Run returns; with one number changed; with too few; with one too many. -/
theorem chk_yes (a : Ac) (A PA : Option Addr) (c cp : Nat) (ys : List Yr) (ps : List Pm) (h0 : errOf a ys = 0) (hps : paysOf a st0 ys = ps) (w : World) (hC : Kd.C kYr w A ys.length ys) (hP : Kd.C kPm w PA ys.length ps) :
    Calls Try.prog 8 #[.agg #[(Value.int .i64 a.a0), (Value.int .i64 a.a1), (Value.int .i64 a.a2), (Value.int .i64 a.a3), (Value.int .i64 a.a4), (Value.int .i64 a.a5)], .slice A ys.length c, .slice PA ys.length cp] w fun e w' => e = .returned (.tuple #[(Value.int .i64 ys.length), (Value.int .i64 0)]) ∧ Below w.heap.size w w' := by
  have hl : ps.length = ys.length := by rw [← hps, paysOf_length]
  have h := check_any a A PA c cp ys ps w hC (by rw [hl]; exact hP)
  rw [hl] at h
  refine Calls.mono h ?_
  rintro e w' ⟨⟨i, er, rfl, hch⟩, hb⟩
  rw [h0, if_pos rfl, hps] at hch
  refine ⟨?_, hb⟩
  rcases hch with ⟨h1, _, h2⟩ | ⟨h1, _, h2⟩
  · rcases h2 with ⟨h2, _⟩ | ⟨x, y, hx, hy, hne, _⟩
    · omega
    · rw [hx] at hy
      exact absurd (Option.some.inj hy) hne
  · rcases h2 with ⟨h2, _⟩ | ⟨h2, h3⟩
    · omega
    · rw [h3, h1, hl]
theorem chk_bad (a : Ac) (A PA : Option Addr) (c cp : Nat) (ys : List Yr) (ps : List Pm) (h0 : errOf a ys = 0) (hps : paysOf a st0 ys = ps) (i : Nat) (x x' : Pm) (hx : ps[i]? = some x) (hne : x' ≠ x) (w : World) (hC : Kd.C kYr w A ys.length ys) (hP : Kd.C kPm w PA ys.length (ps.set i x')) :
    Calls Try.prog 8 #[.agg #[(Value.int .i64 a.a0), (Value.int .i64 a.a1), (Value.int .i64 a.a2), (Value.int .i64 a.a3), (Value.int .i64 a.a4), (Value.int .i64 a.a5)], .slice A ys.length c, .slice PA ys.length cp] w fun e w' => e = .returned (.tuple #[(Value.int .i64 i), (Value.int .i64 11)]) ∧ Below w.heap.size w w' := by
  have hl : ps.length = ys.length := by rw [← hps, paysOf_length]
  have hil := (List.getElem?_eq_some_iff.1 hx).1
  have hls : (ps.set i x').length = ys.length := by rw [List.length_set, hl]
  have h := check_any a A PA c cp ys (ps.set i x') w hC (by rw [hls]; exact hP)
  rw [hls] at h
  refine Calls.mono h ?_
  rintro e w' ⟨⟨k, er, rfl, hch⟩, hb⟩
  rw [h0, if_pos rfl, hps] at hch
  refine ⟨?_, hb⟩
  have key : ∀ j, (ps.set i x')[j]? = if i = j then some x' else ps[j]? := fun j => getElem?_set_cases ps i j x' hil
  rcases hch with ⟨h1, h3, h2⟩ | ⟨h1, h3, h2⟩
  · rcases h2 with ⟨h2, _⟩ | ⟨p, q, hp, hq, hpq, rfl⟩
    · omega
    · rw [key] at hp
      by_cases e : i = k
      · subst e; rfl
      · rw [if_neg e, hq] at hp
        exact absurd (Option.some.inj hp).symm hpq
  · exfalso
    have e1 := congrArg (fun l : List Pm => l[i]?) h3
    simp only [List.getElem?_take] at e1
    rw [if_pos (by omega), key, if_pos rfl, hx] at e1
    exact hne (Option.some.inj e1)
theorem chk_few (a : Ac) (A PA : Option Addr) (c cp : Nat) (ys : List Yr) (ps : List Pm) (h0 : errOf a ys = 0) (hps : paysOf a st0 ys = ps) (i : Nat) (hi : i < ys.length) (w : World) (hC : Kd.C kYr w A ys.length ys) (hP : Kd.C kPm w PA ys.length ps) :
    Calls Try.prog 8 #[.agg #[(Value.int .i64 a.a0), (Value.int .i64 a.a1), (Value.int .i64 a.a2), (Value.int .i64 a.a3), (Value.int .i64 a.a4), (Value.int .i64 a.a5)], .slice A ys.length c, .slice PA i cp] w fun e w' => e = .returned (.tuple #[(Value.int .i64 i), (Value.int .i64 4)]) ∧ Below w.heap.size w w' := by
  have hl : ps.length = ys.length := by rw [← hps, paysOf_length]
  have hls : (ps.take i).length = i := by rw [List.length_take]; omega
  have h := check_any a A PA c cp ys (ps.take i) w hC (by rw [hls]; exact rec_take hP (by omega))
  rw [hls] at h
  refine Calls.mono h ?_
  rintro e w' ⟨⟨k, er, rfl, hch⟩, hb⟩
  rw [h0, if_pos rfl, hps] at hch
  refine ⟨?_, hb⟩
  rcases hch with ⟨h1, h3, h2⟩ | ⟨h1, h3, h2⟩
  · rcases h2 with ⟨h2, rfl⟩ | ⟨p, q, hp, hq, hpq, rfl⟩
    · rw [h2, hls]
    · rw [List.getElem?_take] at hp
      split at hp
      · rw [hq] at hp
        exact absurd (Option.some.inj hp).symm hpq
      · cases hp
  · exfalso
    have := congrArg List.length h3
    rw [List.length_take, List.length_take] at this
    omega
theorem chk_more (a : Ac) (A PA : Option Addr) (c cp : Nat) (ys : List Yr) (ps : List Pm) (z : Pm) (h0 : errOf a ys = 0) (hps : paysOf a st0 ys = ps) (w : World) (hC : Kd.C kYr w A ys.length ys) (hP : Kd.C kPm w PA (ys.length + 1) (ps ++ [z])) :
    Calls Try.prog 8 #[.agg #[(Value.int .i64 a.a0), (Value.int .i64 a.a1), (Value.int .i64 a.a2), (Value.int .i64 a.a3), (Value.int .i64 a.a4), (Value.int .i64 a.a5)], .slice A ys.length c, .slice PA (ys.length + 1) cp] w fun e w' => e = .returned (.tuple #[(Value.int .i64 ys.length), (Value.int .i64 11)]) ∧ Below w.heap.size w w' := by
  have hl : ps.length = ys.length := by rw [← hps, paysOf_length]
  have hls : (ps ++ [z]).length = ys.length + 1 := by rw [List.length_append, hl]; rfl
  have h := check_any a A PA c cp ys (ps ++ [z]) w hC (by rw [hls]; exact hP)
  rw [hls] at h
  refine Calls.mono h ?_
  rintro e w' ⟨⟨k, er, rfl, hch⟩, hb⟩
  rw [h0, if_pos rfl, hps] at hch
  refine ⟨?_, hb⟩
  rcases hch with ⟨h1, h3, h2⟩ | ⟨h1, h3, h2⟩
  · exfalso
    rcases h2 with ⟨h2, _⟩ | ⟨p, q, hp, hq, hpq, rfl⟩
    · omega
    · rw [List.getElem?_append_left h1, hq] at hp
      exact hpq (Option.some.inj hp).symm
  · rcases h2 with ⟨h2, rfl⟩ | ⟨h2, _⟩
    · rw [h1, hl]
    · omega
theorem undef_bool {b : Bool} (h : some undef = some (Value.bool b)) : False := by
  have := Option.some.inj h
  unfold undef at this
  cases this
theorem R_empty {α : Type} (d : Kd α) (e : Nat) (W : World) (base : Nat) (hb : base ≤ W.heap.size) : d.R e (W.alloc (.cells #[] e)) base (fun _ => True) (.slice (some ⟨W.heap.size, 0, none⟩) 0 0) [] :=
  ⟨fun _ _ => trivial, [], World.ownsRow_made W #[] 0 hb (by decide) (by simp), by simp [Reps]⟩
theorem bk_newd (W : World) (o : Obj) (n : Nat) (h : n = W.heap.size) : (W.alloc o).drew.heap[n]? = some o := by subst h; exact bk_new W o
theorem bk_allocd {W : World} {g : Nat} {o : Obj} (h : W.heap[g]? = some o) (o' : Obj) : (W.alloc o').drew.heap[g]? = some o := bk_alloc h o'
theorem bk_newn (W : World) (o : Obj) (n : Nat) (h : n = W.heap.size) : (W.alloc o).heap[n]? = some o := by subst h; exact bk_new W o
theorem own_far (w w' : World) (g n c : Nat) (hg : w.grownBy w' (Value.slice (some ⟨g, 0, none⟩) n c).ownBlock) (b : Nat) (o : Obj) (h : w.heap[b]? = some o) (hne : b ≠ g) : w'.heap[b]? = some o :=
  gb_blk hg h (by simp [Value.ownBlock]; exact hne)
theorem below_own {n : Nat} {v w w' : World} (hB : Below n v w) {g k c : Nat} (hg : w.grownBy w' (Value.slice (some ⟨g, 0, none⟩) k c).ownBlock) (hn : n ≤ w.heap.size) (hr : n ≤ g) : Below n v w' :=
  hB.grown hg hn (fun k e => by simp [Value.ownBlock] at e; omega)
theorem box1 {w : World} {b : Nat} (h : w.heap[b]? = some (.cells #[(Value.int .i64 0), (Value.int .i64 0), (Value.int .i64 0), (Value.int .i64 0), (Value.int .i64 0), (Value.int .i64 0)] 32 (0, 0))) : Kd.C kPm w (some ⟨b, 0, none⟩) 1 [pm0] := rec_blk [pm0] (by decide) h
theorem R_empty2 {α : Type} (d : Kd α) (e : Nat) (W : World) (base g : Nat) (h : W.heap[g]? = some (.cells #[] e (0, 0))) (hb : base ≤ g) : d.R e W base (fun _ => True) (.slice (some ⟨g, 0, none⟩) 0 0) [] :=
  ⟨fun _ _ => trivial, [], ⟨by simp, .inr ⟨g, 0, #[], rfl, hb, h, Nat.le_refl _, by decide, by simp, by simp⟩⟩, by simp [Reps]⟩
section
variable {P : Program} {α : Type}
/-- What append(v, xs...) comes to, as a run. -/
theorem rows_run (d : Kd α) {W : World} (base : Nat) (ty t e : TypeId) (z : Value) (bytes : Nat)
    (ht : P.underlying t = some (.slice e)) (hinfo : (P.info? e).map (fun i => (i.zero, i.size, i.bytes)) = some (some z, d.sz, bytes)) (hz : z.cells.size = d.sz) (hs0 : 0 < d.sz) (hb0 : 0 < bytes)
    (v : Value) (xs ys : List α) (A : Option Addr) (m c : Nat) (ok : Nat → Prop)
    (HO : d.R e W base ok v xs) (HR : d.C W A m ys) (hKM : ∀ x cs, d.K W x cs → d.M W base (fun _ => False) x cs) (hfresh : ∀ k, W.heap.size ≤ k → ok k)
    (hbase : base ≤ W.heap.size) (hl : (xs.length + m) * bytes ≤ 140737488355328) :
    ∃ v1 w1, (Builtin.append_ #[t, t] ty #[v, .slice A m c]).run P W = .ok v1 w1 ∧ d.R e w1 base ok v1 (xs ++ ys) ∧ W.grownBy w1 v.ownBlock := by
  have h1 := Kd.R_append_rows (P := P) (ops := #[]) (rest := []) (o := ⟨some 0, .call { callee := .builtin .append, args := #[.tmp 0, .tmp 1], argTypes := #[t, t] }, ty, "", #[], none⟩) (a := ⟨#[v, .slice A m c], []⟩)
    (Q := fun x a' w' => x = .normal ∧ d.R e w' base ok (a'.tmps.getD 0 undef) (xs ++ ys) ∧ W.grownBy w' v.ownBlock) d (w0 := W) base rfl (.tmp 0) (.tmp 1) t e z bytes rfl ht hinfo hz hs0 hb0 v xs ys A m c ok (fun _ => False) rfl rfl HO HR hKM (fun _ h => h.elim) hfresh
    ((Below.refl _ W).mono hbase) hbase hl (fun v1 w1 h2 _ h3 _ => ⟨rfl, h2, h3⟩)
  simp only [wpList, Region.wanted, if_true] at h1
  rcases h1 with h1 | ⟨_, h1⟩
  rotate_left
  · obtain ⟨_, _, h1, _⟩ := h1
    cases h1
  unfold Oper.wp execOp at h1
  have e0 : (⟨#[v, .slice A m c], []⟩ : Act).eval (.tmp 0) = v := rfl
  have e1 : (⟨#[v, .slice A m c], []⟩ : Act).eval (.tmp 1) = .slice A m c := rfl
  simp only [resolve, invoke, builtin, Sem.run_bind, Sem.run_pure, Result.andThen_ok, List.map_toArray, List.map_cons, List.map_nil, e0, e1] at h1
  cases hr : (Builtin.append_ #[t, t] ty #[v, .slice A m c]).run P W with
  | ok v1 w1 =>
    rw [hr] at h1
    simp only [Result.andThen_ok, Oper.upon] at h1
    exact ⟨v1, w1, rfl, h1.2.1, h1.2.2⟩
  | halt x w1 =>
    rw [hr] at h1
    exfalso
    cases x <;> simp [Result.andThen, Oper.upon, LetsOut] at h1
variable {ops : Array Oper} {o : Oper} {a : Act} {Q : Exit → Act → World → Prop} {Kc : Act → World → Prop}
/-- The same at an operation of a region that draws its order. -/
theorem rows_step (d : Kd α) {W : World} (base : Nat) (hw : Region.wanted o (yielded ops a.tmps) = true) (s x : Operand) (t e : TypeId) (z : Value) (bytes : Nat)
    (ho : o.op = .call { callee := .builtin .append, args := #[s, x], argTypes := #[t, t] })
    (ht : P.underlying t = some (.slice e)) (hinfo : (P.info? e).map (fun i => (i.zero, i.size, i.bytes)) = some (some z, d.sz, bytes)) (hz : z.cells.size = d.sz) (hs0 : 0 < d.sz) (hb0 : 0 < bytes)
    (v : Value) (xs ys : List α) (A : Option Addr) (m c : Nat) (ok : Nat → Prop) (hs : a.eval s = v) (hx : a.eval x = .slice A m c)
    (HO : d.R e W base ok v xs) (HR : d.C W A m ys) (hKM : ∀ x cs, d.K W x cs → d.M W base (fun _ => False) x cs) (hfresh : ∀ k, W.heap.size ≤ k → ok k)
    (hbase : base ≤ W.heap.size) (hl : (xs.length + m) * bytes ≤ 140737488355328)
    (h : ∀ v1 w1, d.R e w1 base ok v1 (xs ++ ys) → W.grownBy w1 v.ownBlock → Kc (a.put o.dst v1) w1) :
    if Region.wanted o (yielded ops a.tmps) = true then Oper.wp P o a W Kc Q else Kc (a.put o.dst undef) W := by
  obtain ⟨v1, w1, hr, h1, h2⟩ := rows_run (P := P) d base o.type t e z bytes ht hinfo hz hs0 hb0 v xs ys A m c ok HO HR hKM hfresh hbase hl
  rw [if_pos hw]
  unfold Oper.wp execOp
  simp only [ho, resolve, invoke, builtin, Sem.run_bind, Sem.run_pure, Result.andThen_ok, List.map_toArray, List.map_cons, List.map_nil, hs, hx, hr]
  exact h v1 w1 h1 h2
end
end Go.Proofs.Ytahfmaocihlcnaa
