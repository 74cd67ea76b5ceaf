/- What the company's methods owed and settle compute. -/
import Derived.Test.YtahfmaocihlcnaaS1
import Derived.Test.YtahfmaocihlcnaaWMore
set_option linter.unusedVariables false
set_option linter.unusedSimpArgs false
namespace Go.Proofs.Ytahfmaocihlcnaa
open Go.RowKit GW Go.Proofs.YtahfmaocihlcnaaW.PrintWords Go.Proofs.YtahfmaocihlcnaaW.PrintLast Go.Proofs.YtahfmaocihlcnaaW.PrintMore
attribute [local go_sem] max_ii min_ii

theorem ci_get {w : World} {A : Option Addr} {n : Nat} {xs : List Int} (h : Kd.C (Kd.int .i64) w A n xs) (k : Nat) (hk : k < n) : ∃ ad, A = some ad ∧ w.cell? (ad.add k) = some (.int .i64 (xs.getD k 0)) := by
  obtain ⟨ad, c, e, _, hK, hc⟩ := Kd.C_get h 0 (k : Int) (by omega) (by omega)
  obtain rfl : c = [.int .i64 (xs.getD k 0)] := by simpa [Kd.int, Kd.scalar] using hK
  have := hc 0 _ rfl
  exact ⟨ad, e, by simpa [Kd.int, Kd.scalar] using this⟩

/-- A company in memory: an act, the balance, and the arrears of the years before. -/
def IsCo (W : World) (g : Nat) (a0 a1 a2 a3 a4 a5 bal : Int) (r : List Int) : Prop :=
  ∃ A c, W.heap[g]? = some (.cells #[.int .i64 a0, .int .i64 a1, .int .i64 a2, .int .i64 a3, .int .i64 a4, .int .i64 a5, .int .i64 bal, .slice A r.length c] 54 (0, 0)) ∧
    r.length ≤ c ∧ c ≤ 9223372036854775807 ∧ Kd.C (Kd.int .i64) W A r.length r ∧ ∀ ad, A = some ad → ∃ cs, W.heap[ad.block]? = some (.cells cs 3 (0, 0))

/-- The same, with the arrears lying in no block below b. -/
def IsCoB (b : Nat) (W : World) (g : Nat) (a0 a1 a2 a3 a4 a5 bal : Int) (r : List Int) : Prop :=
  ∃ A c, W.heap[g]? = some (.cells #[.int .i64 a0, .int .i64 a1, .int .i64 a2, .int .i64 a3, .int .i64 a4, .int .i64 a5, .int .i64 bal, .slice A r.length c] 54 (0, 0)) ∧
    r.length ≤ c ∧ c ≤ 9223372036854775807 ∧ Kd.C (Kd.int .i64) W A r.length r ∧ (∀ ad, A = some ad → b ≤ ad.block) ∧ ∀ ad, A = some ad → ∃ cs, W.heap[ad.block]? = some (.cells cs 3 (0, 0))
/-- Arrears that can be: not below 0, none too great, at most six years'. -/
def ArrOk (r : List Int) : Prop := r.length ≤ 6 ∧ ∀ x ∈ r, 0 ≤ x ∧ x ≤ 1099511627776
theorem ArrOk.take {r : List Int} (h : ArrOk r) (k : Nat) : 0 ≤ (r.take k).sum ∧ (r.take k).sum ≤ 6 * 1099511627776 := by
  obtain ⟨hl, hx⟩ := h
  have key : ∀ l : List Int, (∀ x ∈ l, 0 ≤ x ∧ x ≤ 1099511627776) → 0 ≤ l.sum ∧ l.sum ≤ l.length * 1099511627776 := by
    intro l
    induction l with
    | nil => intro _; simp
    | cons x l ih =>
      intro h
      have h1 := h x List.mem_cons_self
      have h2 := ih (fun y hy => h y (List.mem_cons_of_mem _ hy))
      simp only [List.sum_cons, List.length_cons]
      push_cast
      omega
  have h1 := key (r.take k) (fun x hx' => hx x (List.mem_of_mem_take hx'))
  have h2 : (r.take k).length ≤ 6 := by rw [List.length_take]; omega
  omega
theorem ArrOk.sum {r : List Int} (h : ArrOk r) : 0 ≤ r.sum ∧ r.sum ≤ 6 * 1099511627776 := by
  have := h.take r.length
  rwa [List.take_length] at this
theorem ArrOk.get {r : List Int} (h : ArrOk r) (k : Nat) : 0 ≤ r[k]?.getD 0 ∧ r[k]?.getD 0 ≤ 1099511627776 := by
  by_cases hk : k < r.length
  · have := h.2 r[k] (List.getElem_mem hk)
    simpa [hk] using this
  · simp [List.getElem?_eq_none (Nat.le_of_not_lt hk)]

theorem sum_succ (r : List Int) (k : Nat) (hk : k < r.length) : (r.take (k + 1)).sum = (r.take k).sum + r[k]?.getD 0 := by
  rw [List.take_succ_eq_append_getElem hk, List.sum_append]
  simp [hk]

set_option maxHeartbeats 800000 in
theorem owed_any (g : Nat) (A : Option Addr) (c : Nat) (r : List Int) (w : World) (hc7 : w.cell? ⟨g, 7, none⟩ = some (.slice A r.length c)) (hr : ArrOk r) (hC : Kd.C (Kd.int .i64) w A r.length r) :
    Calls Try.prog 20 #[.pointer (some ⟨g, 0, none⟩)] w fun e w' => e = .returned (.int .i64 r.sum) ∧ w = w' := by
  have hl := hr.1
  have hget := Lib.hid (fun k hk => ci_get hC k hk)
  clear hC
  go_enter Try.func20, Try.ntmps20
  go_wp2
  go_loop [2, 10] (fun n i => ∃ k : Nat, k ≤ r.length ∧ i = .int .i64 k ∧ n = .int .i64 (r.take k).sum) (fun _ i => r.length - (intOf i).toNat)
  case atStart => exact ⟨0, Nat.zero_le _, rfl, rfl⟩
  case round =>
    obtain ⟨k, hk, rfl, rfl⟩ := hrel
    have hb := hr.take k
    have hb1 := hr.take (k + 1)
    by_cases hlt : k < r.length
    · obtain ⟨ad, rfl, hcell⟩ := hget.out k hlt
      have hsn := sum_succ r k hlt
      have hx := hr.get k
      rw [List.getD_eq_getElem?_getD] at hcell
      generalize r[k]?.getD 0 = y at *
      have hsn := Lib.hid hsn
      go_wp2
      go_round
      case rel => exact ⟨k + 1, by omega, by go_num, by rw [hsn.out]⟩
      case measure => simp [intOf]; omega
    · have hke : k = r.length := by omega
      go_wp2
      go_ret
      subst hke
      exact ⟨rfl, rfl⟩

/-- What is left of arrears, the oldest first, when so much is paid. -/
def settleOld : Int → List Int → List Int
  | _, [] => []
  | p, x :: xs => (x - min p x) :: settleOld (p - min p x) xs
def settleLeft : Int → List Int → Int
  | p, [] => p
  | p, x :: xs => settleLeft (p - min p x) xs
theorem settleOld_length (xs : List Int) : ∀ p, (settleOld p xs).length = xs.length := by
  induction xs with
  | nil => intro p; rfl
  | cons x xs ih => intro p; simp [settleOld, ih]
theorem settleOld_snoc (xs : List Int) : ∀ (p x : Int), settleOld p (xs ++ [x]) = settleOld p xs ++ [x - min (settleLeft p xs) x] := by
  induction xs with
  | nil => intro p x; rfl
  | cons y xs ih => intro p x; simp only [List.cons_append, settleOld, settleLeft, ih]
theorem settleLeft_snoc (xs : List Int) : ∀ (p x : Int), settleLeft p (xs ++ [x]) = settleLeft p xs - min (settleLeft p xs) x := by
  induction xs with
  | nil => intro p x; rfl
  | cons y xs ih => intro p x; simp only [List.cons_append, settleLeft, ih]
theorem settleLeft_bd (xs : List Int) : ∀ (p : Int), 0 ≤ p → (∀ x ∈ xs, 0 ≤ x) → 0 ≤ settleLeft p xs ∧ settleLeft p xs ≤ p := by
  induction xs with
  | nil => intro p h _; exact ⟨h, Int.le_refl _⟩
  | cons y xs ih =>
    intro p h hx
    have hy := hx y List.mem_cons_self
    have := ih (p - min p y) (by omega) (fun x hx' => hx x (List.mem_cons_of_mem _ hx'))
    simp only [settleLeft]
    omega
/-- The arrears behind a year. -/
def settle (a5 : Int) (r : List Int) (due paid : Int) : List Int :=
  (settleOld (max 0 (paid - due)) r ++ [max 0 (due - paid)]).drop (r.length + 1 - a5.toNat)

theorem settleOld_bd (xs : List Int) : ∀ (p : Int), 0 ≤ p → (∀ x ∈ xs, 0 ≤ x ∧ x ≤ 1099511627776) → ∀ y ∈ settleOld p xs, 0 ≤ y ∧ y ≤ 1099511627776 := by
  induction xs with
  | nil => intro p _ _ y hy; cases hy
  | cons x xs ih =>
    intro p hp hx y hy
    have h1 := hx x List.mem_cons_self
    rcases List.mem_cons.1 hy with h | h
    · subst h; omega
    · exact ih (p - min p x) (by omega) (fun z hz => hx z (List.mem_cons_of_mem _ hz)) y h

theorem arr_put {W : World} {e : Nat} {base : Nat} {v : Value} (h : W.ownsRow base e 1 v 0 []) : Kd.R (Kd.int .i64) e W base (fun _ => True) v [] :=
  ⟨fun _ _ => trivial, [], h, by simp [Reps]⟩
theorem block_add (a : Addr) (n : Nat) : (a.add n).block = a.block := by unfold Addr.add; split <;> rfl
theorem ci_far {w : World} {A : Option Addr} {n : Nat} {xs : List Int} (h : Kd.C (Kd.int .i64) w A n xs) (p : Addr) (u : Value) (hne : 0 < n → ∀ ad, A = some ad → ad.block ≠ p.block) : Kd.C (Kd.int .i64) (w.setCell p u) A n xs := by
  obtain ⟨h1, h2, h3⟩ := h
  refine ⟨h1, h2, fun hn => ?_⟩
  obtain ⟨ad, e, hc⟩ := h3 hn
  refine ⟨ad, e, fun j q hq => ?_⟩
  obtain ⟨c, hc1, hc2, hc3⟩ := hc j q hq
  refine ⟨c, hc1, hc2, fun i v hv => ?_⟩
  have hb : (ad.add (j * (Kd.int .i64).sz + i)).block ≠ p.block := by rw [block_add]; exact hne hn ad e
  exact (World.cell?_of_block (Below.heap_setCell w p u _ hb)).trans (hc3 i v hv)
theorem ci_lt {w : World} {A : Option Addr} {n : Nat} {xs : List Int} (h : Kd.C (Kd.int .i64) w A n xs) (hn : 0 < n) : ∀ ad, A = some ad → ad.block < w.heap.size := by
  intro ad hA
  obtain ⟨ad', e, hc⟩ := ci_get h 0 hn
  rw [e] at hA
  cases hA
  have := World.block_lt_of_cell? w _ hc
  rwa [block_add] at this
theorem kCi {w w1 : World} (hb : Below w.heap.size w w1) {A : Option Addr} {n : Nat} {xs : List Int} (h : Kd.C (Kd.int .i64) w A n xs) : Kd.C (Kd.int .i64) w1 A n xs := Kd.C_below h hb
theorem r_block {w : World} {e base : Nat} {ok : Nat → Prop} {A : Option Addr} {n c : Nat} {xs : List Int} (h : Kd.R (Kd.int .i64) e w base ok (.slice A n c) xs) : ∀ ad, A = some ad → base ≤ ad.block := by
  intro ad hA
  subst hA
  obtain ⟨inner, ho⟩ := Kd.R_own h
  exact own_base ho ad.block rfl

theorem r_typed {w : World} {e base : Nat} {ok : Nat → Prop} {A : Option Addr} {n c : Nat} {xs : List Int} (h : Kd.R (Kd.int .i64) e w base ok (.slice A n c) xs) : ∀ ad, A = some ad → ∃ cs, w.heap[ad.block]? = some (.cells cs e (0, 0)) := by
  intro ad hA
  subst hA
  obtain ⟨inner, ho⟩ := Kd.R_own h
  exact own_typed ho ad.block rfl

theorem settle_end {w w1 : World} {g : Nat} {a0 a1 a2 a3 a4 a5 bal due paid p : Int} {r : List Int} {A A1 A' : Option Addr} {c c1 m : Nat}
    (hblk : w.heap[g]? = some (.cells #[.int .i64 a0, .int .i64 a1, .int .i64 a2, .int .i64 a3, .int .i64 a4, .int .i64 a5, .int .i64 bal, .slice A r.length c] 54 (0, 0)))
    (hB : Below w.heap.size w w1) (hp : p = max 0 (paid - due)) (h5 : 0 ≤ a5) (h6 : a5 ≤ 5) (hl : r.length ≤ 6)
    (HO : Kd.R (Kd.int .i64) 3 w1 w.heap.size (fun _ => True) (.slice A1 (settleOld p r ++ [max 0 (due - paid)]).length c1) (settleOld p r ++ [max 0 (due - paid)]))
    (hA : A' = if r.length + 1 = (max 0 ((r.length : Int) + 1 - a5)).toNat then A1 else A1.map (·.add (max 0 ((r.length : Int) + 1 - a5)).toNat))
    (hm : m = r.length + 1 - (max 0 ((r.length : Int) + 1 - a5)).toNat) :
    IsCoB w.heap.size (w1.setCell ⟨g, 7, none⟩ (.slice A' m m)) g a0 a1 a2 a3 a4 a5 bal (settle a5 r due paid) ∧ w.grownBy (w1.setCell ⟨g, 7, none⟩ (.slice A' m m)) (some g) := by
  have hlt : g < w.heap.size := (Array.getElem?_eq_some_iff.1 hblk).1
  have hb1 : w1.heap[g]? = some (.cells #[.int .i64 a0, .int .i64 a1, .int .i64 a2, .int .i64 a3, .int .i64 a4, .int .i64 a5, .int .i64 bal, .slice A r.length c] 54 (0, 0)) := (hB.block g hlt).trans hblk
  have hn1 : (settleOld p r ++ [max 0 (due - paid)]).length = r.length + 1 := by rw [List.length_append, settleOld_length]; rfl
  have hblkA := r_block HO
  have htyA := r_typed HO
  obtain ⟨_, _, he, _, hC⟩ := Kd.R_reads HO
  injection he with e1 e2 e3
  subst e1
  have hlo : (max 0 ((r.length : Int) + 1 - a5)).toNat = r.length + 1 - a5.toNat := by omega
  rw [hlo] at hA hm
  have hD := Kd.C_drop (c := r.length + 1) hC (m := r.length + 1 - a5.toNat) (by omega) (by omega)
  have hsz : (Kd.int .i64).sz = 1 := rfl
  rw [hsz, Nat.mul_one, ← hA] at hD
  have hlen : ((settleOld p r ++ [max 0 (due - paid)]).drop (r.length + 1 - a5.toNat)).length = m := by rw [List.length_drop, hn1, hm]
  have hkA : ∀ ad, A' = some ad → ∃ ad0, A1 = some ad0 ∧ ad.block = ad0.block := by
    intro ad had
    rw [hA] at had
    split at had
    · exact ⟨ad, had, rfl⟩
    · cases hA1 : A1 with
      | none => rw [hA1] at had; cases had
      | some ad0 =>
        rw [hA1] at had
        simp only [Option.map_some, Option.some.injEq] at had
        exact ⟨ad0, rfl, by rw [← had, block_add]⟩
  have hbA : ∀ ad, A' = some ad → w.heap.size ≤ ad.block := fun ad had => by
    obtain ⟨ad0, h1, h2⟩ := hkA ad had
    have := hblkA ad0 h1
    omega
  have hneA : ∀ ad, A' = some ad → ad.block ≠ g := fun ad e => by have := hbA ad e; omega
  have htA : ∀ ad, A' = some ad → ∃ cs, (w1.setCell ⟨g, 7, none⟩ (.slice A' m m)).heap[ad.block]? = some (.cells cs 3 (0, 0)) := fun ad e => by
    obtain ⟨ad0, h1, h2⟩ := hkA ad e
    obtain ⟨cs, hcs⟩ := htyA ad0 h1
    refine ⟨cs, ?_⟩
    rw [← h2] at hcs
    exact (Below.heap_setCell w1 _ _ _ (hneA ad e)).trans hcs
  have hset : settle a5 r due paid = (settleOld p r ++ [max 0 (due - paid)]).drop (r.length + 1 - a5.toNat) := by rw [settle, hp]
  refine ⟨⟨A', m, ?_, ?_, ?_, ?_, hbA, htA⟩, ?_⟩
  · rw [hset, hlen]
    simp [World.setCell, Array.getElem?_modify, hb1]
  · rw [hset, hlen]; exact Nat.le_refl _
  · omega
  · rw [hset]
    exact ci_far hD _ _ (fun _ => hneA)
  · exact ⟨hB.os, hB.tape, hB.output, by simpa [World.setCell] using hB.size, fun i hi hne => (Below.heap_setCell w1 _ _ i (fun e => hne (by rw [e]))).trans (hB.block i hi)⟩

theorem info3 : (Try.prog.info? 3).map (fun i => (i.zero, i.size, i.bytes)) = some (some (.int .i64 0), 1, 8) := by kernel_rfl

set_option maxHeartbeats 1600000 in
theorem settle_any (g : Nat) (a0 a1 a2 a3 a4 a5 bal due paid : Int) (r : List Int) (w : World) (hI : IsCo w g a0 a1 a2 a3 a4 a5 bal r) (hr : ArrOk r) (h5 : 0 ≤ a5) (h6 : a5 ≤ 5)
    (hd0 : 0 ≤ due) (hd1 : due ≤ 1099511627776) (hp0 : 0 ≤ paid) (hp1 : paid ≤ 8 * 1099511627776) :
    Calls Try.prog 32 #[.pointer (some ⟨g, 0, none⟩), .int .i64 due, .int .i64 paid] w fun e w' => e = .returned (.tuple #[]) ∧ IsCoB w.heap.size w' g a0 a1 a2 a3 a4 a5 bal (settle a5 r due paid) ∧ w.grownBy w' (some g) := by
  obtain ⟨A, c, hblk, hlc, hcm, hC, hne⟩ := hI
  have hl := hr.1
  have hc7 : w.cell? ⟨g, 7, none⟩ = some (.slice A r.length c) := cell_of_row w g 7 _ 54 (0, 0) hblk
  have hc5 : w.cell? ⟨g, 5, none⟩ = some (.int .i64 a5) := cell_of_row w g 5 _ 54 (0, 0) hblk
  obtain ⟨i0, hi, hz0, hz1, hz2⟩ := info_parts info3
  have hlt : g < w.heap.size := (Array.getElem?_eq_some_iff.1 hblk).1
  have hcells : ∀ w1 : World, Below w.heap.size w w1 → w1.cell? ⟨g, 7, none⟩ = some (.slice A r.length c) ∧ w1.cell? ⟨g, 5, none⟩ = some (.int .i64 a5) ∧ w1.frozen? ⟨g, 7, none⟩ = false := fun w1 hb =>
    ⟨kcell hb hc7, kcell hb hc5, (hb.frozen (p := ⟨g, 7, none⟩) hlt).trans (free_of w g 7 _ 54 hblk)⟩
  have Hcells := Lib.hid hcells
  clear hcells
  have HC := Lib.hid hC
  have Hblk := Lib.hid hblk
  clear hC hblk
  have hp : 0 ≤ max 0 (paid - due) ∧ max 0 (paid - due) ≤ 8 * 1099511627776 := by omega
  obtain ⟨p, hpe⟩ : ∃ p, p = max 0 (paid - due) := ⟨_, rfl⟩
  rw [← hpe] at hp
  have Hpe := Lib.hid hpe
  clear hpe
  go_enter Try.func32, Try.ntmps32
  go_wp2_with (first | (at_make; refine wpList_make_own _ rfl _ _ 52 rfl w.heap.size 3 i0 (.int .i64 0) 1 Try.underlying52 hi hz0 hz1 _ _ _ (r.length + 1) rfl rfl (by push_cast; rfl) (by rw [hz2]; omega) (by unfold maxLen; omega) (Nat.le_refl _) ?_; intro w1 hown hg1; have hB1 := (Below.refl w.heap.size w).grown hg1 (Nat.le_refl _) (by simp); obtain ⟨k7, k5, kf⟩ := Hcells.out w1 hB1))
  rw [← Hpe.out]
  go_loopw [2, 7, 32] (fun pv nv ix wr => ∃ k : Nat, k ≤ r.length ∧ ix = .int .i64 k ∧ pv = .int .i64 (settleLeft p (r.take k)) ∧ Kd.R (Kd.int .i64) 3 wr w.heap.size (fun _ => True) nv (settleOld p (r.take k)) ∧ Below w.heap.size w wr)
    (fun _ _ ix _ => r.length - (intOf ix).toNat)
  case atStart => exact ⟨0, Nat.zero_le _, rfl, rfl, arr_put hown, hB1⟩
  case round =>
    clear hown hg1 hB1 k7 k5 kf
    obtain ⟨k, hk, rfl, rfl, HO, hB⟩ := hrel
    have hbs := settleLeft_bd (r.take k) p hp.1 (fun x hx => (hr.2 x (List.mem_of_mem_take hx)).1)
    by_cases hlt2 : k < r.length
    · obtain ⟨ad, rfl, hcell0⟩ := ci_get (Kd.C_below HC.out hB) k hlt2
      have e1 : r.take (k + 1) = r.take k ++ [r.getD k 0] := by rw [List.take_succ_eq_append_getElem hlt2]; simp [hlt2]
      have e2 := settleOld_snoc (r.take k) p (r.getD k 0)
      have e3 := settleLeft_snoc (r.take k) p (r.getD k 0)
      rw [← e1] at e2 e3
      have hx := hr.get k
      rw [← List.getD_eq_getElem?_getD] at hx
      generalize r.getD k 0 = y at *
      generalize hq : settleLeft p (r.take k) = q at *
      have E2 := Lib.hid e2
      have E3 := Lib.hid e3
      clear e1 e2 e3 hq
      go_wp2_with (first | ((with_reducible refine gate_builtin (b := .append) (xs := #[.tmp 39, .tmp 43]) rfl ?_); at_builtin; refine Kd.R_append (Kd.int .i64) (w0 := w) w.heap.size rfl (.tmp 39) (.tmp 43) 52 3 (.int .i64 0) 8 rfl Try.underlying52 info3 rfl (by decide) (by omega) _ _ (y - min q y) [.int .i64 (y - min q y)] (fun _ => True) (fun _ => False) rfl rfl rfl (fun _ hk => hk.elim) (fun _ _ => trivial) HO hB hB.size (by rw [settleOld_length, List.length_take]; omega) ?_; intro v1 w1 HO1 hB1 hg1 hat1))
      go_roundw
      case rel => exact ⟨k + 1, by omega, by go_num, by rw [E3.out], by rw [E2.out]; exact HO1, hB1⟩
      case measure => simp [intOf]; omega
    · obtain ⟨k7, k5, kf⟩ := Hcells.out wr hB
      obtain rfl : k = r.length := by omega
      rw [List.take_length] at HO
      have hold := settleOld_length r p
      go_wp2_with (first | ((with_reducible refine gate_builtin (b := .append) (xs := #[.tmp 49, .tmp 51]) rfl ?_); at_builtin; refine Kd.R_append (Kd.int .i64) (w0 := w) w.heap.size rfl (.tmp 49) (.tmp 51) 52 3 (.int .i64 0) 8 rfl Try.underlying52 info3 rfl (by decide) (by omega) _ _ (max 0 (due - paid)) [.int .i64 (max 0 (due - paid))] (fun _ => True) (fun _ => False) rfl rfl rfl (fun _ hk => hk.elim) (fun _ _ => trivial) HO hB hB.size (by omega) ?_; intro v1 w1 HO1 hB1 hg1 hat1; obtain ⟨A1, c1, hv1, hc1, hC1⟩ := Kd.R_reads HO1; obtain ⟨q7, q5, qf⟩ := Hcells.out w1 hB1; have hn1 : (settleOld p r ++ [max 0 (due - paid)]).length = r.length + 1 := by rw [List.length_append, settleOld_length]; rfl))
      all_goals
        go_end0
        refine ⟨rfl, ?_⟩
        rw [hv1] at HO1
      · exact settle_end Hblk.out hB1 Hpe.out h5 h6 hl HO1 (by rw [if_pos (by omega)]) (by omega)
      · exact settle_end Hblk.out hB1 Hpe.out h5 h6 hl HO1 (by rw [if_neg (by omega)]) (by omega)
end Go.Proofs.Ytahfmaocihlcnaa
