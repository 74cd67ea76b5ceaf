import Derived.RangeFuncNested
import Derived.RangeFuncBound
import Derived.RangeFuncCalls
import Derived.RangeFuncLeaves
import Derived.Shelf.Abstract
import Derived.Shelf.RegionOpen
import Derived.OwnWalkIn
import Derived.TacticsInMore
import Derived.LoopNIn
import Derived.LoopIn
import Derived.Test.YtahfmaocihlcnaaBase
namespace Go.Proofs.Ytahfmaocihlcnaa
open Go.RowKit Go.Shelf
namespace GW
/-! A range over an iterator that writes one block of cells of its own (g) between two rounds. -/

/-- I abides a turn of the block g, and of blocks at or beyond B that are no cells; and new blocks. -/
def OwnG {β : Type} (g B : Nat) (I : β → World → Prop) : Prop :=
  ∀ s W W' row, I s W → W.grownBy W' row → (∀ r, row = some r → r = g ∨ (B ≤ r ∧ ∃ o : Obj, W.heap[r]? = some o ∧ o.isCells = false)) → I s W'
theorem OwnG.putObj {β : Type} {g B : Nat} {I : β → World → Prop} (h : OwnG g B I) {s : β} {W : World} {l : Nat} {o : Obj} (o' : Obj) (hs : I s W) (hB : B ≤ l) (hl : W.heap[l]? = some o) (ho : o.isCells = false) : I s (W.putObj l o') :=
  h s W _ (some l) hs (grownBy_putObj' W l o') (fun r e => by cases e; exact .inr ⟨hB, o, hl, ho⟩)
theorem OwnG.alloc {β : Type} {g B : Nat} {I : β → World → Prop} (h : OwnG g B I) {s : β} {W : World} (o : Obj) (hs : I s W) : I s (W.alloc o) :=
  h s W _ none hs (World.grownBy_alloc W o none) (fun r e => by cases e)
theorem OwnG.and {β : Type} {g B : Nat} {I I' : β → World → Prop} (h : OwnG g B I) (h' : OwnG g B I') : OwnG g B (fun s W => I s W ∧ I' s W) := fun s W W' row hs hg hr => ⟨h s W W' row hs.1 hg hr, h' s W W' row hs.2 hg hr⟩
theorem ownG_const {β : Type} {g B : Nat} (p : β → Prop) : OwnG g B (fun (s : β) (_ : World) => p s) := fun _ _ _ _ hs _ _ => hs
theorem ownG_below {β : Type} {g B n₀ : Nat} {w₀ : World} (hn : n₀ ≤ w₀.heap.size) (hB : n₀ ≤ B) (hgb : n₀ ≤ g) : OwnG g B (fun (_ : β) W => Below n₀ w₀ W) :=
  fun _ _ _ _ hs hg hr => hs.grown hg (Nat.le_trans hn hs.size) (fun k e => by rcases hr k e with rfl | h <;> omega)
theorem ownG_blk {β : Type} {g B b : Nat} {o : β → Obj} (ho : ∀ s, (o s).isCells = true) (hne : b ≠ g) : OwnG g B (fun (s : β) W => W.heap[b]? = some (o s)) := by
  intro s W W' row hs hg hr
  refine (hg.block b (Array.getElem?_eq_some_iff.1 hs).1 (fun e => ?_)).trans hs
  rcases hr b e.symm with h | ⟨_, o', ho', hc⟩
  · exact hne h
  · rw [hs] at ho'
    cases ho'
    rw [ho] at hc
    cases hc

/-- What such an iterator does. -/
def ItG (F : Fence) (n : Nat) (P : Program) (gf : Nat) (lb : Array Value) (encs : Nat → Array Value) (N g : Nat) (n0 : Nat) (T : TypeId → Prop) (Pre Post : World → Prop) : Prop :=
  ∀ (l : Nat) (J Jx : Nat → World → Prop) (W : World), Pre W →
    (∀ k A B, J k A → A.grownBy B (some g) → J k B) → (∀ k A B, Jx k A → A.grownBy B (some g) → Jx k B) →
    (∀ k W1, k < N → J k W1 → YieldAt F (n - 1) P l (encs k) W1 fun e W' => (e = .returned (.bool true) ∧ J (k + 1) W' ∧ KeepsT n0 T W1 W') ∨ (e = .returned (.bool false) ∧ Jx (k + 1) W')) →
    J 0 W →
    CallsIn F n P gf (#[.func (.yield l) #[] #[]] ++ lb) W fun e W' => (∃ v, e = .returned v) ∧ ((J N W' ∧ Post W') ∨ (∃ k, k < N ∧ Jx (k + 1) W'))

/-- How the body of a round may be left. -/
def endG (n0 : Nat) (T : TypeId → Prop) (I : Nat → World → Prop) (Ix : Code → Nat → World → Prop) (k : Nat) (W : World) : Exit → Act → World → Prop
  | .normal, _, W' => KeepsOthers W W' ∧ KeepsT n0 T W W' ∧ I k W'
  | .ret, _, W' => KeepsOthers W W' ∧ Ix .ret k W'
  | .exit id, _, W' => KeepsOthers W W' ∧ Ix (.exit id) k W'
  | .goto t, _, W' => KeepsOthers W W' ∧ Ix (.goto t) k W'
  | .panic _, _, _ => False
  | .outgrown, _, _ => False

variable {F : Fence} {n : Nat} {P : Program}
theorem keepsT_put {n0 : Nat} {T : TypeId → Prop} {W : World} {l : Nat} {o : Obj} (o' : Obj) (hn : n0 ≤ l) (hl : W.heap[l]? = some o) (ho : o.isCells = false) : KeepsT n0 T W (W.putObj l o') :=
  .grown (grownBy_putObj' W l o') (Nat.le_trans hn (Nat.le_of_lt (Array.getElem?_eq_some_iff.1 hl).1)) (fun r e => by cases e; exact ⟨hn, o, hl, fun cs t fr h => by subst h; cases ho⟩)

theorem wpIn_rangeG {f : Operand} {ps : Array Tmp} {assign body : Code} {Q : Exit → Act → World → Prop} {a : Act} {w : World}
    (hro : F.round = none) (h1 : 1 ≤ n) {gf : Nat} {lb : Array Value} (hf : a.eval f = .func (.func gf) #[] lb) (hFg : F.fn gf) (eg : ∀ args w, (callFunc gf args).run P w = .ok (.enter gf args) w)
    {encs : Nat → Array Value} {N g n0 : Nat} {T : TypeId → Prop} {Pre Post : World → Prop} (hit : ItG F (n - 1) P gf lb encs N g n0 T Pre Post) (hg : g < w.heap.size) (hn0 : n0 ≤ w.heap.size)
    (hps : ∀ k, (encs k).size = ps.size)
    (hpre : ∀ o o', Pre ((w.alloc o).alloc o'))
    (hpost : ∀ W l o o', w.heap.size ≤ l → W.heap[l]? = some o → o.isCells = false → Post W → Post (W.putObj l o'))
    (I : Nat → World → Prop) (Ix : Code → Nat → World → Prop) (Ax : Nat → Act → World → Prop)
    (hI : OwnG g w.heap.size I) (hIx : ∀ c, OwnG g w.heap.size (Ix c)) (hAx : ∀ a', OwnG g w.heap.size (fun k W => Ax k a' W)) (h0 : I 0 w)
    (hassign : ∀ (l k : Nat) (W : World) (K : Act → World → Prop), I k W → k < N → (∀ a' W', KeepsOthers W W' → KeepsT n0 T W W' → I k W' → Ax k a' W' → K a' W') →
      assign.wpIn (F.inRound l) (n - 1 - 1) P (Exit.then K (fun _ _ _ => False)) { tmps := (ps.zip (encs k)).foldl (fun t (p, v) => t.setIfInBounds p v) a.tmps, defers := [] } W)
    (hbody : ∀ (l k : Nat) (a' : Act) (W : World), I k W → Ax k a' W → k < N → body.wpIn (F.inRound l) (n - 1 - 1) P (endG n0 T I Ix (k + 1) W) a' W)
    (hdone : ∀ (D : Nat) (W : World), w.heap.size ≤ D → I N W → Post W → W.heap[D]? = some (.deferred (some [])) → Q .normal { a with defers := { target := .collected D, args := #[] } :: a.defers } W)
    (hstop : ∀ (D : Nat) (c : Code) (k : Nat) (W : World), w.heap.size ≤ D → k < N → Ix c (k + 1) W → W.heap[D]? = some (.deferred (some [])) → c.wpIn F n P Q { a with defers := { target := .collected D, args := #[] } :: a.defers } W) :
    (Code.rangeFunc f ps assign body).wpIn F n P Q a w := by
  refine wpIn_rangeFunc fun fn hfn => ?_
  rw [hro]
  -- the loop's record, by its state and what is pending
  let rc : LoopState → Option Code → Loop := fun st pe => { state := st, pending := pe, fn, tmps := a.tmps, params := ps, assign, body, defers := w.heap.size }
  let W1 := (w.alloc (.deferred (some []))).alloc (.loop (rc .ready none))
  -- the two blocks that the statement lays
  let Bk : LoopState → Option Code → World → Prop := fun st pe W => W.heap[w.heap.size + 1]? = some (.loop (rc st pe)) ∧ W.heap[w.heap.size]? = some (.deferred (some []))
  have hB1 : Bk .ready none W1 := ⟨by have := World.alloc_heap_new (w.alloc (.deferred (some []))) (.loop (rc .ready none)); rwa [World.size_alloc] at this,
    (Below.heap_alloc _ _ _ (by simp)).trans (World.alloc_heap_new w _)⟩
  -- the iterator's own writes spare them
  have hBg : ∀ {st pe A B}, Bk st pe A → A.grownBy B (some g) → Bk st pe B := fun h hgr =>
    ⟨(hgr.block _ (Array.getElem?_eq_some_iff.1 h.1).1 (by simp; omega)).trans h.1, (hgr.block _ (Array.getElem?_eq_some_iff.1 h.2).1 (by simp; omega)).trans h.2⟩
  have hOg : ∀ {β : Type} {I : β → World → Prop}, OwnG g w.heap.size I → ∀ s A B, I s A → A.grownBy B (some g) → I s B := fun h s A B hs hgr =>
    h s A B _ hs hgr (fun r e => .inl (by cases e; rfl))
  -- turning the record
  have hput : ∀ {st pe st' pe' W}, Bk st pe W → Bk st' pe' (W.putObj (w.heap.size + 1) (.loop (rc st' pe'))) := fun h =>
    ⟨World.putObj_heap_same (Array.getElem?_eq_some_iff.1 h.1).1, (World.putObj_heap_other (by omega)).trans h.2⟩
  refine ⟨w.heap.size + 1, [{ target := .collected w.heap.size, args := #[] }], W1, { target := .fn (.func gf) lb, args := #[.func (.yield (w.heap.size + 1)) #[] #[]] }, W1, gf,
    #[.func (.yield (w.heap.size + 1)) #[] #[]] ++ lb, W1, run_enterLoop_outer _ _ _ _ _, ?_, ?_, ?_, fun _ => h1, ?_⟩
  · simp only [resolve, hf]
    simp [go_sem]
  · intro f' hf'; simp [Target.leads] at hf'; subst hf'; exact hFg
  · simp [invoke, go_sem, eg]
  refine (hit (w.heap.size + 1) (fun k W => I k W ∧ Bk .ready none W) (fun k W => ∃ c, Ix c k W ∧ Bk .done (some c) W) W1 (hpre _ _)
    (fun k A B h hgr => ⟨hOg hI k A B h.1 hgr, hBg h.2 hgr⟩) (fun k A B ⟨c, h, hb⟩ hgr => ⟨c, hOg (hIx c) k A B h hgr, hBg hb hgr⟩) ?_ ⟨hI.alloc _ (hI.alloc _ h0), hB1⟩).mono ?_
  · -- a round
    rintro k W hk ⟨hi, hb⟩
    refine ⟨fn, _, assign, body, run_yield (P := P) (args := encs k) hb.1 (hps k), roundIn_of_wpIn hfn (hassign _ k W _ hi hk fun a' Wa hko hkt hia hax => ?_)⟩
    have hba : Bk .ready none Wa := ⟨hko.same _ _ hb.1 rfl, hko.same _ _ hb.2 rfl⟩
    refine ⟨_, run_beginRound hba.1 rfl, ?_⟩
    have hb2 : Bk .busy none _ := hput (st' := .busy) (pe' := none) hba
    have hi2 := hI.putObj (.loop (rc .busy none)) hia (by omega) hba.1 rfl
    have hax2 := (hAx a').putObj (.loop (rc .busy none)) hax (by omega) hba.1 rfl
    have hkt2 : KeepsT n0 T W (Wa.putObj (w.heap.size + 1) (.loop (rc .busy none))) := hkt.trans (keepsT_put _ (by omega) hba.1 rfl)
    have fin : ∀ (jump : Option Code) (W3 : World), KeepsOthers (Wa.putObj (w.heap.size + 1) (.loop (rc .busy none))) W3 → Bk .busy none W3 :=
      fun jump W3 hk3 => ⟨hk3.same _ _ hb2.1 rfl, hk3.same _ _ hb2.2 rfl⟩
    have stop : ∀ (c : Code) (W3 : World), KeepsOthers (Wa.putObj (w.heap.size + 1) (.loop (rc .busy none))) W3 → Ix c (k + 1) W3 →
        ∃ v w', (Instr.endRound (w.heap.size + 1) (some c)).run P W3 = .ok v w' ∧
          ((Ending.returned v = .returned (.bool true) ∧ (I (k + 1) w' ∧ Bk .ready none w') ∧ KeepsT n0 T W w') ∨ (Ending.returned v = .returned (.bool false) ∧ ∃ c, Ix c (k + 1) w' ∧ Bk .done (some c) w')) := fun c W3 hk3 hi3 => by
      have hb3 := fin (some c) W3 hk3
      exact ⟨_, _, run_endRound (P := P) (some c) hb3.1, .inr ⟨rfl, c, (hIx c).putObj _ hi3 (by omega) hb3.1 rfl, hput (st' := .done) (pe' := some c) hb3⟩⟩
    refine wpIn_mono (hbody _ k a' _ hi2 hax2 hk) ?_
    rintro e a3 W3 hp
    cases e with
    | normal =>
      obtain ⟨hk3, hkt3, hi3⟩ := hp
      have hb3 := fin none W3 hk3
      exact ⟨_, _, run_endRound (P := P) none hb3.1, .inl ⟨rfl, ⟨hI.putObj _ hi3 (by omega) hb3.1 rfl, hput (st' := .ready) (pe' := none) hb3⟩, (hkt2.trans hkt3).trans (keepsT_put _ (by omega) hb3.1 rfl)⟩⟩
    | ret => exact stop _ W3 hp.1 hp.2
    | exit id => exact stop _ W3 hp.1 hp.2
    | goto t => exact stop _ W3 hp.1 hp.2
    | panic ch => exact hp.elim
    | outgrown => exact hp.elim
  · -- behind the iterator
    rintro e W2 ⟨⟨v, rfl⟩, (⟨⟨hi, hb⟩, hp⟩ | ⟨k, hk, c, hi, hb⟩)⟩
    · exact ⟨none, _, run_endLoop (P := P) hb.1 (by simp [rc]), hdone _ _ (Nat.le_refl _) (hI.putObj _ hi (by omega) hb.1 rfl) (hpost _ _ _ _ (by omega) hb.1 rfl hp) ((World.putObj_heap_other (by omega)).trans hb.2)⟩
    · exact ⟨some c, _, run_endLoop (P := P) hb.1 (by simp [rc]), hstop _ c k _ (Nat.le_refl _) hk ((hIx c).putObj _ hi (by omega) hb.1 rfl) ((World.putObj_heap_other (by omega)).trans hb.2)⟩
/-- Names the activation of a fenced goal. -/
theorem name_act {c : Code} {Q : Exit → Act → World → Prop} {a : Act} {w : World} (h : ∀ a0, a = a0 → c.wpIn F n P Q a0 w) : c.wpIn F n P Q a w := h a rfl
end GW
end Go.Proofs.Ytahfmaocihlcnaa
