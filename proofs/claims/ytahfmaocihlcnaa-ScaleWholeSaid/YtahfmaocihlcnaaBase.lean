import Derived.WalkKit
import Derived.WalkSpells
import Derived.WalkLawsBesides
import Derived.Deep.RegionHeld3
import Derived.Deep.RegionWith
import Derived.Deep.DrawnRows
import Derived.Deep.QuietTactic
import Derived.BigQuiet
import Derived.Handy
import Derived.Lib.Hide
namespace Go.Proofs.Ytahfmaocihlcnaa
open Go.RowKit
namespace GW

/-- max and min of two integers, as the walk is to spell them. -/
theorem max_ii (ats : Array TypeId) (ty : TypeId) (k k' : IntKind) (x y : Int) : Builtin.max_ ats ty #[.int k x, .int k' y] = pure (.int k (max x y)) := by
  simp only [Builtin.max_, List.foldlM_cons, List.foldlM_nil, Builtin.max2, gt_iff_lt]
  rw [Int.max_def]
  by_cases h : x < y
  · simp [h, show x ≤ y by omega]
  · by_cases h2 : x = y
    · subst h2; simp
    · simp [h, show ¬ x ≤ y by omega]
theorem min_ii (ats : Array TypeId) (ty : TypeId) (k k' : IntKind) (x y : Int) : Builtin.min_ ats ty #[.int k x, .int k' y] = pure (.int k (min x y)) := by
  simp only [Builtin.min_, List.foldlM_cons, List.foldlM_nil, Builtin.min2]
  rw [Int.min_def]
  by_cases h : x ≤ y
  · simp [h, show ¬ y < x by omega]
  · simp [h, show y < x by omega]

/-- Old cells and old marks behind a call that made memory alone. -/
theorem bcell {W w1 : World} (hb : Below W.heap.size W w1) : (∀ b o, b < W.heap.size → w1.cell? ⟨b, o, none⟩ = W.cell? ⟨b, o, none⟩) ∧ (∀ b o, b < W.heap.size → w1.frozen? ⟨b, o, none⟩ = W.frozen? ⟨b, o, none⟩) :=
  ⟨fun b o h => hb.cell (p := ⟨b, o, none⟩) h, fun b o h => hb.frozen (p := ⟨b, o, none⟩) h⟩
theorem free_of (w : World) (g i : Nat) (cs : Array Value) (t : TypeId) (h : w.heap[g]? = some (.cells cs t (0, 0))) : w.frozen? ⟨g, i, none⟩ = false := by
  simp [World.frozen?, h]
theorem kcell {w w1 : World} (hb : Below w.heap.size w w1) {a : Addr} {v : Value} (hc : w.cell? a = some v) : w1.cell? a = some v := (hb.cell (World.block_lt_of_cell? w a hc)).trans hc
theorem kblk {w w1 : World} (hb : Below w.heap.size w w1) {g : Nat} {o : Obj} (h : w.heap[g]? = some o) : w1.heap[g]? = some o := (hb.block g (Array.getElem?_eq_some_iff.1 h).1).trans h
theorem bk_lt {w : World} {g : Nat} {o : Obj} (h : w.heap[g]? = some o) : g < w.heap.size := (Array.getElem?_eq_some_iff.1 h).1
theorem bk_set {W : World} {g : Nat} {cs : Array Value} {t : TypeId} (h : W.heap[g]? = some (.cells cs t (0, 0))) (i : Nat) (u : Value) : (W.setCell ⟨g, i, none⟩ u).heap[g]? = some (.cells (cs.setIfInBounds i u) t (0, 0)) := by
  simp [World.setCell, Array.getElem?_modify, h]
theorem bk_far {W : World} {g : Nat} {o : Obj} (h : W.heap[g]? = some o) (p : Addr) (u : Value) (hne : g ≠ p.block) : (W.setCell p u).heap[g]? = some o := (Below.heap_setCell W p u g hne).trans h
theorem bk_alloc {W : World} {g : Nat} {o : Obj} (h : W.heap[g]? = some o) (o' : Obj) : (W.alloc o').heap[g]? = some o := (Below.heap_alloc W o' g (bk_lt h)).trans h
theorem bk_new (W : World) (o : Obj) : (W.alloc o).heap[W.heap.size]? = some o := heap_alloc_new W o
theorem gb_refl (w : World) (row : Option Nat) : w.grownBy w row := World.grownBy.refl w row
theorem gb_below {a w w1 : World} {row : Option Nat} (h : a.grownBy w row) (hb : Below w.heap.size w w1) : a.grownBy w1 row :=
  ⟨hb.os.trans h.os, hb.tape.trans h.tape, hb.output.trans h.output, Nat.le_trans h.size hb.size, fun i hi hne => (hb.block i (Nat.lt_of_lt_of_le hi h.size)).trans (h.block i hi hne)⟩
theorem gb_trans {a w w1 : World} {row : Option Nat} (h : a.grownBy w row) (k : w.grownBy w1 row) : a.grownBy w1 row :=
  ⟨k.os.trans h.os, k.tape.trans h.tape, k.output.trans h.output, Nat.le_trans h.size k.size, fun i hi hne => (k.block i (Nat.lt_of_lt_of_le hi h.size) hne).trans (h.block i hi hne)⟩
theorem gb_alloc {a w : World} {row : Option Nat} (h : a.grownBy w row) (o : Obj) : a.grownBy (w.alloc o) row :=
  ⟨h.os, h.tape, h.output, Nat.le_trans h.size (by simp), fun i hi hne => (Below.heap_alloc w o i (Nat.lt_of_lt_of_le hi h.size)).trans (h.block i hi hne)⟩
theorem gb_set {a w : World} {g : Nat} (h : a.grownBy w (some g)) {p : Addr} (hp : p.block = g ∨ a.heap.size ≤ p.block) (u : Value) : a.grownBy (w.setCell p u) (some g) :=
  ⟨h.os, h.tape, h.output, by simpa [World.setCell] using h.size, fun i hi hne => (Below.heap_setCell w p u i (by
    rintro rfl
    rcases hp with hp | hp
    · exact hne (by rw [hp])
    · omega)).trans (h.block i hi hne)⟩
theorem gb_blk {a w : World} {row : Option Nat} (h : a.grownBy w row) {b : Nat} {o : Obj} (hb : a.heap[b]? = some o) (hne : some b ≠ row) : w.heap[b]? = some o := (h.block b (bk_lt hb) hne).trans hb
theorem below_of_gb {a w : World} {g B : Nat} (h : a.grownBy w (some g)) (hB : B ≤ g) (hs : B ≤ a.heap.size) : Below B a w :=
  ⟨h.os, h.tape, h.output, h.size, fun i hi => h.block i (Nat.lt_of_lt_of_le hi hs) (by simp; omega)⟩
/-- What lies below n0 lies as it lay, and so do the blocks of cells of the types T. -/
structure KeepsT (n0 : Nat) (T : TypeId → Prop) (W W' : World) : Prop where
  size : W.heap.size ≤ W'.heap.size
  old : ∀ b, b < n0 → W'.heap[b]? = W.heap[b]?
  blk : ∀ (b : Nat) (cs : Array Value) (t : TypeId) (fr : Nat × Nat), W.heap[b]? = some (.cells cs t fr) → T t → W'.heap[b]? = some (.cells cs t fr)
section
variable {n0 : Nat} {T : TypeId → Prop}
theorem KeepsT.refl (n0 : Nat) (T : TypeId → Prop) (W : World) : KeepsT n0 T W W := ⟨Nat.le_refl _, fun _ _ => rfl, fun _ _ _ _ h _ => h⟩
theorem KeepsT.trans {A B C : World} (h : KeepsT n0 T A B) (k : KeepsT n0 T B C) : KeepsT n0 T A C :=
  ⟨Nat.le_trans h.size k.size, fun b hb => (k.old b hb).trans (h.old b hb), fun b cs t fr hb ht => k.blk b cs t fr (h.blk b cs t fr hb ht) ht⟩
theorem KeepsT.below {A B : World} (h : Below A.heap.size A B) (hn : n0 ≤ A.heap.size) : KeepsT n0 T A B :=
  ⟨h.size, fun b hb => h.block b (by omega), fun b _ _ _ hb _ => (h.block b (Array.getElem?_eq_some_iff.1 hb).1).trans hb⟩
theorem KeepsT.alloc (W : World) (o : Obj) (hn : n0 ≤ W.heap.size) : KeepsT n0 T W (W.alloc o) := KeepsT.below ((Below.refl _ W).alloc (Nat.le_refl _) o) hn
theorem KeepsT.setCell {W : World} {b : Nat} {cs : Array Value} {t : TypeId} {fr : Nat × Nat} (hb : W.heap[b]? = some (.cells cs t fr)) (hn : n0 ≤ b) (ht : ¬ T t) (o : Nat) (x : Option Nat) (u : Value) : KeepsT n0 T W (W.setCell ⟨b, o, x⟩ u) :=
  ⟨by simp [World.setCell], fun b' hb' => Below.heap_setCell W _ u b' (by show b' ≠ b; omega), fun b' cs' t' fr' h' hT => (Below.heap_setCell W _ u b' (by
    rintro rfl
    rw [hb] at h'
    cases h'
    exact ht hT)).trans h'⟩
theorem KeepsT.grown {W W' : World} {row : Option Nat} (hg : W.grownBy W' row) (hn : n0 ≤ W.heap.size) (hr : ∀ r, row = some r → n0 ≤ r ∧ ∃ o : Obj, W.heap[r]? = some o ∧ ∀ cs t fr, o = .cells cs t fr → ¬ T t) : KeepsT n0 T W W' :=
  ⟨hg.size, fun b hb => hg.block b (by omega) (fun e => by have := (hr b e.symm).1; omega), fun b cs t fr hb ht => (hg.block b (Array.getElem?_eq_some_iff.1 hb).1 (fun e => by
    obtain ⟨_, o, ho, hc⟩ := hr b e.symm
    rw [hb] at ho
    cases ho
    exact hc _ _ _ rfl ht)).trans hb⟩
theorem ne_typed {W : World} {b b' : Nat} {cs cs' : Array Value} {t t' : TypeId} {fr fr' : Nat × Nat} (h : W.heap[b]? = some (.cells cs t fr)) (h' : W.heap[b']? = some (.cells cs' t' fr')) (hne : t ≠ t') : b ≠ b' := by
  rintro rfl
  rw [h] at h'
  cases h'
  exact hne rfl
end
theorem results_c {P : Program} {fn : Func} {p : Tmp} {ty : TypeId} (h : fn.results = #[.cell p ty]) (tmps : Array Value) (w : World) (g : Nat) (t : TypeId) (cs : Array Value) (fr : Nat × Nat) (d : TypeDesc)
    (hp : tmps.getD p undef = .pointer (some ⟨g, 0, none⟩)) (hg : w.heap[g]? = some (.cells cs t fr))
    (hu : P.underlying ty = some d) (hd : (match d with | .struct _ | .array _ _ => true | _ => false) = true) (hi : (P.info? ty).map (·.size) = some cs.size) :
    (results fn tmps).run P w = .ok (.agg cs) w := by
  have hp' : tmps[p]?.getD undef = .pointer (some ⟨g, 0, none⟩) := by simpa using hp
  simp [results, h, hp', asAddr, run_loadVar_row w g t ty cs fr d hg hu hd hi]
end GW
end Go.Proofs.Ytahfmaocihlcnaa
