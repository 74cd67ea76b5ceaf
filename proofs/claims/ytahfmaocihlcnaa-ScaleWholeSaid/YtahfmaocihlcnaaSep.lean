/- A region that draws its order: each operation is told by itself (what it leaves in its slot, and in the world, which only grows), the stores at the end in their order. -/
import Derived.Test.YtahfmaocihlcnaaBase
import Derived.Orders
set_option linter.unusedVariables false
namespace Go.Proofs.Ytahfmaocihlcnaa
open Go.RowKit
namespace GW

abbrev VP := Value → World → Prop
/-- It was so in an earlier world, all of whose blocks lie as they lay. -/
def Was (B : VP) (v : Value) (w : World) : Prop := ∃ w1, Below w1.heap.size w1 w ∧ B v w1
theorem Was.now {B : VP} {v : Value} {w : World} (h : B v w) : Was B v w := ⟨w, Below.refl _ _, h⟩
theorem Was.later {B : VP} {v : Value} {w w' : World} (h : Was B v w) (hb : Below w.heap.size w w') : Was B v w' :=
  let ⟨w1, h1, h2⟩ := h
  ⟨w1, h1.trans (hb.mono h1.size), h2⟩

theorem Was.eq {c v : Value} {w : World} (h : Was (fun v _ => v = c) v w) : v = c := let ⟨_, _, h⟩ := h; h
def upd (a : Act) (ds : List Tmp) (x : Tmp → Value) : Act := { a with tmps := ds.foldl (fun t d => t.setIfInBounds d (x d)) a.tmps }

theorem get_fold (x : Tmp → Value) : ∀ (ds : List Tmp) (t : Array Value) (k : Nat),
    (ds.foldl (fun t d => t.setIfInBounds d (x d)) t)[k]? = if k ∈ ds ∧ k < t.size then some (x k) else t[k]? := by
  intro ds
  induction ds with
  | nil => intro t k; simp
  | cons c ds ih =>
    intro t k
    rw [List.foldl_cons, ih]
    by_cases h1 : k ∈ ds
    · by_cases h2 : k < t.size <;> simp [h1, h2]
    · by_cases h3 : c = k
      · subst h3
        by_cases h2 : c < t.size <;> simp [h1, h2]
      · have h4 : ¬ k = c := fun h => h3 h.symm
        simp [h1, h3, h4]

theorem upd_put (a : Act) (ds : List Tmp) (x : Tmp → Value) (d : Tmp) (v : Value) (h : d ∈ ds) :
    (upd a ds x).put (some d) v = upd a ds (fun t => if t = d then v else x t) := by
  have hs : ∀ (y : Tmp → Value), (ds.foldl (fun t d => t.setIfInBounds d (y d)) a.tmps).size = a.tmps.size := by
    intro y
    generalize a.tmps = t
    clear h
    induction ds generalizing t with
    | nil => rfl
    | cons c ds ih => rw [List.foldl_cons, ih]; simp
  have ht : (upd a ds x).tmps.setIfInBounds d v = (upd a ds (fun t => if t = d then v else x t)).tmps := by
    apply Array.ext_getElem?
    intro k
    rw [Array.getElem?_setIfInBounds]
    simp only [upd, get_fold, hs]
    by_cases hk : d = k
    · subst hk
      by_cases h2 : d < a.tmps.size
      · simp [h, h2]
      · simp [h2]
    · have hk' : ¬ k = d := fun e => hk e.symm
      simp [hk, hk']
  show ({ upd a ds x with tmps := (upd a ds x).tmps.setIfInBounds d v } : Act) = _
  rw [ht]
  rfl

/-! ### the region's edges -/
def dataDep (e : Edge) : Bool := match e.ground with | .data | .guard => true | _ => false
def mkCl (l : List Oper) : List (List Nat) :=
  l.foldl (fun acc o => acc ++ [(o.after.toList.foldl (fun s e => if Region.binds .any e then s ++ (e.on :: (acc.getD e.on [])).filter (fun j => !s.contains j) else s) [])]) []
def clOk (l : List Oper) (cl : List (List Nat)) : Bool :=
  (List.range l.length).all fun i => match l[i]? with
    | none => true
    | some o => (o.after.toList.all fun e => !Region.binds .any e || decide (e.on < i)) &&
      ((cl.getD i []).all fun j => o.after.toList.any fun e => Region.binds .any e && (e.on == j || (cl.getD e.on []).contains j))
def sepB (l : List Oper) (T : List Nat) (cl : List (List Nat)) : Bool :=
  clOk l cl &&
  ((List.range l.length).all fun i => !T.contains i || (List.range l.length).all fun j => T.contains j || (cl.getD i []).contains j) &&
  ((List.range l.length).all fun i => T.contains i || (List.range l.length).all fun j => T.contains j || i == j ||
    match l[i]?, l[j]? with
    | some oi, some oj => match oi.dst with | none => true | some d => oj.dst != some d
    | _, _ => true)
def sArr (l : List Oper) (T : List Nat) : Array Bool := ((List.range l.length).map fun i => !T.contains i).toArray
def depDs (l : List Oper) : List Edge → List Tmp
  | [] => []
  | e :: r => if dataDep e then (match l[e.on]? with
      | some o => (match o.dst with | some d => d :: depDs l r | none => depDs l r)
      | none => depDs l r) else depDs l r
def readB (l : List Oper) (T : List Nat) (ds : List Tmp) : Bool :=
  (l.all fun o => match o.op with | .select _ _ => false | _ => true) &&
  ((List.range l.length).all fun i => T.contains i || match l[i]? with
    | none => true
    | some o => (o.looksAt l.toArray).all fun t => !ds.contains t || (depDs l o.after.toList).contains t)
def dsOf (T : List Nat) : Nat → List Oper → List Tmp
  | _, [] => []
  | i, o :: r => if T.contains i then dsOf T (i + 1) r else match o.dst with | some d => d :: dsOf T (i + 1) r | none => dsOf T (i + 1) r

theorem dsOf_mem (T : List Nat) : ∀ (l : List Oper) (k i : Nat) (o : Oper) (d : Tmp), l[i]? = some o → T.contains (k + i) = false → o.dst = some d → d ∈ dsOf T k l := by
  intro l
  induction l with
  | nil => intro k i o d h; simp at h
  | cons c r ih =>
    intro k i o d h ht hd
    cases i with
    | zero =>
      simp only [List.getElem?_cons_zero, Option.some.injEq] at h
      subst h
      rw [Nat.add_zero] at ht
      unfold dsOf
      rw [if_neg (by simpa using ht), hd]
      exact List.mem_cons_self
    | succ i =>
      have := ih (k + 1) i o d (by simpa using h) (by rw [show k + 1 + i = k + (i + 1) by omega]; exact ht) hd
      unfold dsOf
      split
      · exact this
      · split
        · exact List.mem_cons_of_mem _ this
        · exact this

section
variable {P : Program} {l : List Oper} {T : List Nat} {cl : List (List Nat)} {Q : Exit → Act → World → Prop} {a0 : Act} {w0 : World} {A : Nat → VP}

def fact (l : List Oper) (A : Nat → VP) (x : Tmp → Value) (w : World) (j : Nat) : Prop :=
  match l[j]? with
  | some o => match o.dst with | some d => Was (A j) (x d) w | none => True
  | none => True

/-- What an operation's slot is known to hold: one value; or what a predicate says. -/
inductive PV where
  | pure (v : Value)
  | pred (B : VP)
def PV.vp : PV → VP
  | .pure c => fun v _ => v = c
  | .pred B => B
def pvA (pvs : List PV) : Nat → VP := fun i => match pvs[i]? with | some p => p.vp | none => fun _ _ => True

/-- What an operation is told: of the slots that it reads, where they hold what a predicate says. -/
def depImp (l : List Oper) (pvs : List PV) (x : Tmp → Value) (w : World) : List Edge → Prop → Prop
  | [], G => G
  | e :: r, G => if dataDep e then (match pvs[e.on]? with
      | some (.pred B) => (match l[e.on]? with
        | some o => match o.dst with | some d => (Was B (x d) w → depImp l pvs x w r G) | none => depImp l pvs x w r G
        | none => depImp l pvs x w r G)
      | _ => depImp l pvs x w r G) else depImp l pvs x w r G
theorem depImp_elim {pvs : List PV} {x : Tmp → Value} {w : World} : ∀ (es : List Edge) (G : Prop), depImp l pvs x w es G → (∀ e ∈ es, dataDep e = true → fact l (pvA pvs) x w e.on) → G := by
  intro es
  induction es with
  | nil => intro G h _; exact h
  | cons e r ih =>
    intro G h hf
    have hr : depImp l pvs x w r G := by
      unfold depImp at h
      split at h
      · rename_i he
        have h1 := hf e List.mem_cons_self he
        unfold fact at h1
        split at h
        · rename_i B hB
          split at h
          · rename_i o ho
            rw [ho] at h1
            simp only at h1
            split at h
            · rename_i d hd
              rw [hd] at h1
              simp only [pvA, hB] at h1
              exact h h1
            · exact h
          · exact h
        · exact h
      · exact h
    exact ih G hr (fun e' h' => hf e' (List.mem_cons_of_mem _ h'))

/-- The frame that an operation sees: the slots that it reads. -/
def depFrame (l : List Oper) (pvs : List PV) (x : Tmp → Value) : List Edge → Array Value → Array Value
  | [], t => t
  | e :: r, t => if dataDep e then (match l[e.on]? with
      | some o => (match o.dst with
        | some d => (match pvs[e.on]? with
          | some (.pure v) => depFrame l pvs x r (t.setIfInBounds d v)
          | _ => depFrame l pvs x r (t.setIfInBounds d (x d)))
        | none => depFrame l pvs x r t)
      | none => depFrame l pvs x r t) else depFrame l pvs x r t

/-- One operation's own statement. -/
def opPost (A : Nat → VP) (i : Nat) (dst : Option Tmp) (df : List Deferred) (w : World) : Exit → Act → World → Prop :=
  fun e a' w' => e = .normal ∧ a'.defers = df ∧ Below w.heap.size w w' ∧ match dst with | some d => A i (a'.tmps.getD d undef) w' | none => True
def opObl (P : Program) (l : List Oper) (a0 : Act) (S : World → Prop) (pvs : List PV) (i : Nat) (o : Oper) : Prop :=
  ∀ (x : Tmp → Value) (w : World), S w → depImp l pvs x w o.after.toList
    (∀ Q : Exit → Act → World → Prop, (∀ a' w', opPost (pvA pvs) i o.dst a0.defers w .normal a' w' → Q .normal a' w') →
      wpList P l.toArray Q [o] { tmps := depFrame l pvs x o.after.toList a0.tmps, defers := a0.defers } w)
def allObl (P : Program) (l : List Oper) (a0 : Act) (S : World → Prop) (pvs : List PV) (T : List Nat) : Nat → List Oper → Prop
  | _, [] => True
  | i, o :: r => if T.contains i then allObl P l a0 S pvs T (i + 1) r else opObl P l a0 S pvs i o ∧ allObl P l a0 S pvs T (i + 1) r
theorem allObl_get {S : World → Prop} {pvs : List PV} : ∀ (r : List Oper) (k : Nat), allObl P l a0 S pvs T k r → ∀ i o, r[i]? = some o → T.contains (k + i) = false → opObl P l a0 S pvs (k + i) o := by
  intro r
  induction r with
  | nil => intro k _ i o h; simp at h
  | cons c r ih =>
    intro k h i o ho ht
    unfold allObl at h
    cases i with
    | zero =>
      simp only [List.getElem?_cons_zero, Option.some.injEq] at ho
      subst ho
      rw [Nat.add_zero] at ht ⊢
      rw [if_neg (by simpa using ht)] at h
      exact h.1
    | succ i =>
      have e : k + (i + 1) = k + 1 + i := by omega
      rw [e] at ht ⊢
      split at h
      · exact ih (k + 1) h i o (by simpa using ho) ht
      · exact ih (k + 1) h.2 i o (by simpa using ho) ht

/-- All predicates' facts, one after another. -/
def factsImp (l : List Oper) (pvs : List PV) (x : Tmp → Value) (w : World) (T : List Nat) : Nat → List Oper → Prop → Prop
  | _, [], G => G
  | i, o :: r, G => if T.contains i then factsImp l pvs x w T (i + 1) r G else match pvs[i]? with
    | some (.pred B) => (match o.dst with
      | some d => (Was B (x d) w → factsImp l pvs x w T (i + 1) r G)
      | none => factsImp l pvs x w T (i + 1) r G)
    | _ => factsImp l pvs x w T (i + 1) r G
theorem factsImp_elim {pvs : List PV} {x : Tmp → Value} {w : World} {G : Prop} : ∀ (r : List Oper) (k : Nat), (∀ i, r[i]? = l[k + i]?) → factsImp l pvs x w T k r G → (∀ j, T.contains j = false → fact l (pvA pvs) x w j) → G := by
  intro r
  induction r with
  | nil => intro k _ h _; exact h
  | cons o r ih =>
    intro k hl h hf
    have ho : l[k]? = some o := by simpa using (hl 0).symm
    have hl' : ∀ i, r[i]? = l[k + 1 + i]? := fun i => by have := hl (i + 1); simpa [Nat.add_assoc, Nat.add_comm 1 i] using this
    unfold factsImp at h
    split at h
    · exact ih (k + 1) hl' h hf
    · rename_i ht
      have hk := hf k (by simpa using ht)
      unfold fact at hk
      rw [ho] at hk
      split at h
      · rename_i B hB
        cases hd : o.dst with
        | none => simp only [hd] at h; exact ih (k + 1) hl' h hf
        | some d => simp only [hd, pvA, hB] at h hk; exact ih (k + 1) hl' (h hk) hf
      · exact ih (k + 1) hl' h hf

theorem depFrame_eq {pvs : List PV} {x : Tmp → Value} : ∀ (es : List Edge) (t : Array Value),
    (∀ e ∈ es, dataDep e = true → ∀ o d v, l[e.on]? = some o → o.dst = some d → pvs[e.on]? = some (.pure v) → x d = v) →
    depFrame l pvs x es t = (depDs l es).foldl (fun t d => t.setIfInBounds d (x d)) t := by
  intro es
  induction es with
  | nil => intro t _; rfl
  | cons e r ih =>
    intro t h
    have hr := fun t => ih t (fun e' h' => h e' (List.mem_cons_of_mem _ h'))
    unfold depFrame depDs
    split
    · rename_i he
      split
      · rename_i o ho
        split
        · rename_i d hd
          simp only [List.foldl_cons]
          split
          · rename_i v hv
            rw [h e List.mem_cons_self he o d v ho hd hv]
            exact hr _
          · exact hr _
        · exact hr _
      · exact hr _
    · exact hr _

theorem getD_fold (x : Tmp → Value) (ds : List Tmp) (t : Array Value) (k : Nat) :
    (ds.foldl (fun t d => t.setIfInBounds d (x d)) t).getD k undef = if k ∈ ds ∧ k < t.size then x k else t.getD k undef := by
  rw [Array.getD_eq_getD_getElem?, get_fold, Array.getD_eq_getD_getElem?]
  split <;> rfl
theorem size_fold (x : Tmp → Value) (ds : List Tmp) (t : Array Value) : (ds.foldl (fun t d => t.setIfInBounds d (x d)) t).size = t.size := by
  induction ds generalizing t with
  | nil => rfl
  | cons c ds ih => rw [List.foldl_cons, ih]; simp

theorem yielded_congr {ops : Array Oper} {t t' : Array Value} {j : Nat} (h : ∀ og d, ops[j]? = some og → og.dst = some d → t.getD d undef = t'.getD d undef) : yielded ops t j = yielded ops t' j := by
  unfold yielded
  cases ho : ops[j]? with
  | none => rfl
  | some og =>
    cases hd : og.dst with
    | none => simp [hd]
    | some d =>
      have h1 := h og d ho hd
      rw [Array.getD_eq_getD_getElem?, Array.getD_eq_getD_getElem?] at h1
      simp only [Option.bind_some, hd]
      cases h2 : t[d]? with
      | none =>
        cases h3 : t'[d]? with
        | none => rfl
        | some v => rw [h2, h3] at h1; simp only [Option.getD_none, Option.getD_some] at h1; subst h1; rfl
      | some u =>
        cases h3 : t'[d]? with
        | none => rw [h2, h3] at h1; simp only [Option.getD_none, Option.getD_some] at h1; subst h1; rfl
        | some v => rw [h2, h3] at h1; simp only [Option.getD_some] at h1; subst h1; rfl

theorem wpOp_of_list {ops : Array Oper} {i : Nat} {o : Oper} {K : Act → World → Prop} {a a1 : Act} {w : World} (ho : ops[i]? = some o) (hsel : ∀ cs b, o.op ≠ .select cs b)
    (hsz : ∀ d, o.dst = some d → d < a1.tmps.size) (he : ∀ t, .tmp t ∈ o.op.operands → a.eval (.tmp t) = a1.eval (.tmp t))
    (hw : Region.wanted o (yielded ops a.tmps) = Region.wanted o (yielded ops a1.tmps))
    (h : wpList P ops (opPost A i o.dst a1.defers w) [o] a1 w) (hK : ∀ v w', Below w.heap.size w w' → (o.dst.isSome = true → A i v w') → K (a.put o.dst v) w') : wpOp P ops Q i K a w := by
  have hn : ∀ v w', opPost A i o.dst a1.defers w .normal (a1.put o.dst v) w' → K (a.put o.dst v) w' := by
    rintro v w' ⟨_, _, hb, hA⟩
    refine hK v w' hb fun hs => ?_
    cases hd : o.dst with
    | none => rw [hd] at hs; cases hs
    | some d =>
      rw [hd] at hA
      have e : (a1.put (some d) v).tmps.getD d undef = v := by
        have := hsz d hd
        simp [Act.put, this]
      simp only [e] at hA
      exact hA
  have hx : execOp a.eval o = execOp a1.eval o := execOp_congr o hsel fun x hx => by
    cases x with
    | tmp t => exact he t hx
    | _ => rfl
  unfold wpOp
  rw [ho]
  simp only [wpList] at h
  have hq : ∀ (r : Result Next), o.upon P a1 (opPost A i o.dst a1.defers w .normal) (opPost A i o.dst a1.defers w) r → o.upon P a K Q r := by
    intro r hr
    cases r with
    | ok n w' =>
      cases n with
      | defer d =>
        simp only [Oper.upon] at hr
        have h1 := hr.2.1
        have h2 : (({ a1 with defers := d :: a1.defers } : Act).put o.dst undef).defers = d :: a1.defers := by unfold Act.put; split <;> rfl
        rw [h2] at h1
        exact absurd h1 (by simp)
      | enter f args =>
        simp only [Oper.upon] at hr ⊢
        exact Calls.mono hr (fun e w'' he => by
            cases e with
            | returned v => exact hn _ _ he
            | panicked c => exact absurd he.1 (by simp)
            | outgrown => obtain ⟨_, _, h1, _⟩ := he; cases h1)
      | row r args =>
        simp only [Oper.upon] at hr ⊢
        exact Rows.mono hr (fun _ _ he => hn _ _ he)
      | value v => simp only [Oper.upon] at hr ⊢; exact hn _ _ hr
      | skip => simp only [Oper.upon] at hr ⊢; exact hn _ _ hr
      | _ => simp only [Oper.upon] at hr
    | halt x w' =>
      cases x <;> simp only [Oper.upon] at hr ⊢
      exact absurd hr.1 (by simp)
  simp only []
  rw [hw]
  split
  · rename_i hw
    rw [if_pos hw] at h
    rcases h with h | ⟨_, _, _, h1, _⟩
    · refine .inl ?_
      unfold Oper.wp at h ⊢
      rw [hx]
      exact hq _ h
    · cases h1
  · rename_i hw
    rw [if_neg hw] at h
    exact hn _ _ h

/-- Down-closed. -/
def Down (l : List Oper) (listed : Array Bool) : Prop := ∀ j o, l[j]? = some o → listed.getD j false = true → ∀ e ∈ o.after, Region.binds .any e = true → listed.getD e.on false = true

theorem cl_listed (hc : clOk l cl = true) {listed : Array Bool} (hd : Down l listed) : ∀ (i : Nat) (o : Oper), l[i]? = some o → (∀ e ∈ o.after, Region.binds .any e = true → listed.getD e.on false = true) →
    ∀ j ∈ cl.getD i [], listed.getD j false = true := by
  intro i
  induction i using Nat.strongRecOn with
  | _ i ih =>
    intro o ho he j hj
    have h := List.all_eq_true.1 hc i (List.mem_range.2 (List.getElem?_eq_some_iff.1 ho).1)
    rw [ho] at h
    simp only [Bool.and_eq_true] at h
    have h2 := List.all_eq_true.1 h.2 j hj
    obtain ⟨e, hem, h3⟩ := List.any_eq_true.1 h2
    simp only [Bool.and_eq_true, Bool.or_eq_true, beq_iff_eq] at h3
    have hem' : e ∈ o.after := by simpa using hem
    have hl := he e hem' h3.1
    rcases h3.2 with h4 | h4
    · rw [← h4]; exact hl
    · have hlt : e.on < i := by
        have := List.all_eq_true.1 h.1 e hem
        simp only [Bool.or_eq_true, Bool.not_eq_true', decide_eq_true_eq] at this
        rcases this with h5 | h5
        · rw [h3.1] at h5; cases h5
        · exact h5
      have hlen : e.on < l.length := by have := (List.getElem?_eq_some_iff.1 ho).1; omega
      exact ih e.on hlt l[e.on] (List.getElem?_eq_getElem hlen) (fun e' h' hb' => hd e.on _ (List.getElem?_eq_getElem hlen) hl e' h' hb') j (by simpa using h4)

theorem getD_set_self {listed : Array Bool} {i : Nat} {b : Bool} (h : i < listed.size) : (listed.setIfInBounds i true).getD i b = true := by
  simp [h]
theorem getD_set_other {listed : Array Bool} {i j : Nat} {b : Bool} (h : i ≠ j) : (listed.setIfInBounds i true).getD j b = listed.getD j b := by
  simp [h]

def cnt (listed : Array Bool) : Nat := listed.toList.countP (· = true)
theorem cnt_set {listed : Array Bool} {i : Nat} (h : i < listed.size) (h0 : listed.getD i false = false) : cnt (listed.setIfInBounds i true) = cnt listed + 1 := by
  unfold cnt
  rw [Array.toList_setIfInBounds]
  have hi : i < listed.toList.length := by simpa using h
  have h1 : listed.toList[i]'hi = false := by simpa [h] using h0
  rw [List.countP_set hi]
  simp [h1]
theorem cnt_full {listed : Array Bool} (h : cnt listed = listed.size) : ∀ j, j < listed.size → listed.getD j false = true := by
  intro j hj
  have h1 : listed.toList.countP (· = true) = listed.toList.length := by simpa [cnt] using h
  have := List.countP_eq_length.1 h1 (listed.toList[j]'(by simpa using hj)) (List.getElem_mem _)
  simpa [hj] using this

/-- What holds when these have come up. -/
def Phi (P : Program) (l : List Oper) (T : List Nat) (a0 : Act) (w0 : World) (S : World → Prop) (A : Nat → VP) (listed : Array Bool) (a : Act) (w : World) : Prop :=
  (∀ i, T.contains i = true → listed.getD i false = false) ∧ ∃ x, a = upd a0 (dsOf T 0 l) x ∧ (S w ∧ Below w0.heap.size w0 w) ∧ ∀ j, T.contains j = false → listed.getD j false = true → fact l A x w j

theorem sep_any {S : World → Prop} {pvs : List PV} (hB : sepB l T cl = true) (hrd : readB l T (dsOf T 0 l) = true)
    (hsz : ∀ d ∈ dsOf T 0 l, d < a0.tmps.size) (hS : ∀ w w', S w → Below w.heap.size w w' → S w')
    (hop : allObl P l a0 S pvs T 0 l)
    (htail : ∀ x w, S w → Below w0.heap.size w0 w → (∀ j, T.contains j = false → fact l (pvA pvs) x w j) → wpAny P .any l.toArray Q (l.length - cnt (sArr l T)) (sArr l T) (upd a0 (dsOf T 0 l) x) w) :
    ∀ (fuel : Nat) (listed : Array Bool) (a : Act) (w : World), listed.size = l.length → fuel + cnt listed = l.length → Down l listed → Phi P l T a0 w0 S (pvA pvs) listed a w →
      wpAny P .any l.toArray Q fuel listed a w := by
  simp only [sepB, Bool.and_eq_true] at hB
  obtain ⟨⟨hcl, hT⟩, hdist⟩ := hB
  -- an operation of the tail comes when all else has come
  have hTcl : ∀ i, i < l.length → T.contains i = true → ∀ j, j < l.length → T.contains j = false → j ∈ cl.getD i [] := by
    intro i hi hiT j hj hjT
    have h := List.all_eq_true.1 hT i (List.mem_range.2 hi)
    rw [hiT] at h
    have h2 := List.all_eq_true.1 h j (List.mem_range.2 hj)
    rw [hjT] at h2
    simpa using h2
  -- all the others have come: the tail
  have hall : ∀ (fuel : Nat) (listed : Array Bool) (a : Act) (w : World), listed.size = l.length → fuel + cnt listed = l.length → Phi P l T a0 w0 S (pvA pvs) listed a w →
      (∀ j, j < l.length → T.contains j = false → listed.getD j false = true) → wpAny P .any l.toArray Q fuel listed a w := by
    intro fuel listed a w hs hc hphi hal
    obtain ⟨hno, x, rfl, ⟨hSw, hbw⟩, hfx⟩ := hphi
    have he : listed = sArr l T := by
      apply Array.ext_getElem?
      intro k
      have hr : (sArr l T)[k]? = Option.map (fun i => !T.contains i) (List.range l.length)[k]? := by
        unfold sArr; rw [List.getElem?_toArray, List.getElem?_map]
      rw [hr]
      by_cases hk : k < l.length
      · rw [List.getElem?_range hk, Array.getElem?_eq_getElem (by omega)]
        have hks : k < listed.size := by omega
        simp only [Option.map_some, Option.some.injEq]
        cases hTk : T.contains k with
        | true => have := hno k hTk; simpa [hks] using this
        | false => have := hal k hk hTk; simpa [hks] using this
      · rw [Array.getElem?_eq_none (by omega), List.getElem?_eq_none (by simp; omega)]
        rfl
    subst he
    have hf : fuel = l.length - cnt (sArr l T) := by omega
    rw [hf]
    refine htail x w hSw hbw (fun j hj => ?_)
    by_cases hjl : j < l.length
    · exact hfx j hj (hal j hjl hj)
    · unfold fact; rw [List.getElem?_eq_none (by omega)]; trivial
  intro fuel
  induction fuel with
  | zero =>
    intro listed a w hs hc hd hphi
    exact hall 0 listed a w hs hc hphi (fun j hj _ => cnt_full (by omega) j (by omega))
  | succ fuel ih =>
    intro listed a w hs hc hd hphi
    by_cases hal : ∀ j, j < l.length → T.contains j = false → listed.getD j false = true
    · exact hall _ listed a w hs hc hphi hal
    obtain ⟨j0, hj0l, hj0T, hj0⟩ : ∃ j, j < l.length ∧ T.contains j = false ∧ listed.getD j false = false := by
      apply Classical.byContradiction
      intro hcon
      refine hal fun j hj hjT => ?_
      cases hb : listed.getD j false with
      | true => rfl
      | false => exact absurd ⟨j, hj, hjT, hb⟩ hcon
    refine ⟨fun hr => ?_, fun i hi => ?_⟩
    · -- something is ready: the least that has not come
      exfalso
      have : ∀ j, j < l.length → listed.getD j false = true := by
        intro j
        induction j using Nat.strongRecOn with
        | _ j ihj =>
          intro hj
          rcases hb : listed.getD j false with _ | _
          · exfalso
            have hmem : j ∈ Region.ready .any l.toArray listed := by
              rw [mem_ready]
              refine ⟨by have : j < listed.size := by omega
                         simpa [this] using hb, l[j], by simp, fun e he hbd => ?_⟩
              have h := List.all_eq_true.1 hcl j (List.mem_range.2 hj)
              rw [List.getElem?_eq_getElem hj] at h
              simp only [Bool.and_eq_true] at h
              have h1 := List.all_eq_true.1 h.1 e (by simpa using he)
              simp only [Bool.or_eq_true, Bool.not_eq_true', decide_eq_true_eq] at h1
              rcases h1 with h2 | h2
              · rw [hbd] at h2; cases h2
              · exact ihj e.on h2 (by omega)
            rw [hr] at hmem
            cases hmem
          · rfl
      have := this j0 hj0l
      rw [hj0] at this
      cases this
    obtain ⟨h0, o, ho, hedges⟩ := mem_ready.1 hi
    have hol : l[i]? = some o := by simpa using ho
    have hil : i < l.length := (List.getElem?_eq_some_iff.1 hol).1
    have his : i < listed.size := by omega
    have h0f : listed.getD i false = false := by simpa [his] using h0
    have hdown : Down l (listed.setIfInBounds i true) := by
      intro j oj hj hjl e he hb
      have key : listed.getD e.on false = true := by
        by_cases hij : i = j
        · subst hij
          rw [hol] at hj
          cases hj
          exact hedges e he hb
        · rw [getD_set_other hij] at hjl
          exact hd j oj hj hjl e he hb
      by_cases hie : i = e.on
      · rw [← hie]; exact getD_set_self his
      · rw [getD_set_other hie]; exact key
    have hnext : ∀ a' w', Phi P l T a0 w0 S (pvA pvs) (listed.setIfInBounds i true) a' w' → wpAny P .any l.toArray Q fuel (listed.setIfInBounds i true) a' w' :=
      fun a' w' hp => ih _ _ _ (by simpa using hs) (by rw [cnt_set his h0f]; omega) hdown hp
    have hcli := cl_listed hcl hd i o hol hedges
    obtain ⟨hno, x, rfl, ⟨hSw, hbw⟩, hfx⟩ := hphi
    have hiT : T.contains i = false := by
      cases hiT : T.contains i with
      | false => rfl
      | true =>
        have := hcli j0 (hTcl i hil hiT j0 hj0l hj0T)
        rw [hj0] at this
        cases this
    have hob := allObl_get l 0 hop i o hol (by rw [Nat.zero_add]; exact hiT)
    rw [Nat.zero_add] at hob
    have hdep : ∀ e ∈ o.after.toList, dataDep e = true → T.contains e.on = false ∧ fact l (pvA pvs) x w e.on := fun e he hde => by
      have he' : e ∈ o.after := by simpa using he
      have hb : Region.binds .any e = true := by
        unfold dataDep at hde
        unfold Region.binds
        cases hg : e.ground <;> rw [hg] at hde <;> simp_all
      by_cases hjT : T.contains e.on = true
      · exfalso
        have h1 := hno e.on hjT
        rw [hedges e he' hb] at h1
        cases h1
      · exact ⟨by simpa using hjT, hfx e.on (by simpa using hjT) (hedges e he' hb)⟩
    have hK := depImp_elim _ _ (hob x w hSw) (fun e he hde => (hdep e he hde).2)
    have hdm : ∀ d, o.dst = some d → d ∈ dsOf T 0 l := fun d hd => dsOf_mem T l 0 i o d hol (by rw [Nat.zero_add]; exact hiT) hd
    have hdf := depFrame_eq (l := l) (pvs := pvs) (x := x) o.after.toList a0.tmps (fun e he hde oj d v hoj hdj hv => by
      have h1 := (hdep e he hde).2
      unfold fact at h1
      rw [hoj] at h1
      simp only [hdj] at h1
      have h2 : pvA pvs e.on = fun u _ => u = v := by simp only [pvA, hv, PV.vp]
      rw [h2] at h1
      exact Was.eq h1)
    have hsub : ∀ t ∈ depDs l o.after.toList, t ∈ dsOf T 0 l := by
      have : ∀ es : List Edge, (∀ e ∈ es, dataDep e = true → T.contains e.on = false) → ∀ t ∈ depDs l es, t ∈ dsOf T 0 l := by
        intro es
        induction es with
        | nil => intro _ t ht; cases ht
        | cons e r ih =>
          intro h t ht
          have hr := ih (fun e' h' => h e' (List.mem_cons_of_mem _ h')) t
          unfold depDs at ht
          split at ht
          · rename_i he
            split at ht
            · rename_i oj hoj
              split at ht
              · rename_i d hd
                rcases List.mem_cons.1 ht with h1 | h1
                · rw [h1]
                  exact dsOf_mem T l 0 e.on oj d hoj (by rw [Nat.zero_add]; exact h e List.mem_cons_self he) hd
                · exact hr h1
              · exact hr ht
            · exact hr ht
          · exact hr ht
      exact this _ (fun e he hde => (hdep e he hde).1)
    simp only [readB, Bool.and_eq_true] at hrd
    have hlook : ∀ t, t ∈ o.looksAt l.toArray → (upd a0 (dsOf T 0 l) x).tmps.getD t undef = (depFrame l pvs x o.after.toList a0.tmps).getD t undef := fun t ht => by
      have h1 := List.all_eq_true.1 hrd.2 i (List.mem_range.2 hil)
      rw [hiT, hol, Bool.false_or] at h1
      have h2 := List.all_eq_true.1 h1 t ht
      simp only [Bool.or_eq_true, Bool.not_eq_true', List.contains_eq_mem, decide_eq_false_iff_not, decide_eq_true_eq] at h2
      rw [hdf, getD_fold]
      show ((dsOf T 0 l).foldl (fun t d => t.setIfInBounds d (x d)) a0.tmps).getD t undef = _
      rw [getD_fold]
      by_cases h3 : t ∈ dsOf T 0 l
      · have h4 : t ∈ depDs l o.after.toList := by
          rcases h2 with h2 | h2
          · exact absurd h3 h2
          · exact h2
        simp [h3, h4]
      · have h4 : ¬ t ∈ depDs l o.after.toList := fun h => h3 (hsub t h)
        simp [h3, h4]
    refine wpOp_of_list (P := P) (A := pvA pvs) (a1 := { tmps := depFrame l pvs x o.after.toList a0.tmps, defers := a0.defers }) (l.getElem?_toArray ▸ hol)
      (fun cs b hsel => by
        have h1 := List.all_eq_true.1 hrd.1 o (List.mem_of_getElem? hol)
        rw [hsel] at h1
        cases h1)
      (fun d hd => by
        show d < (depFrame l pvs x o.after.toList a0.tmps).size
        rw [hdf, size_fold]
        exact hsz d (hdm d hd))
      (fun t ht => hlook t (List.mem_append_left _ (List.mem_filterMap.2 ⟨.tmp t, by simpa using ht, rfl⟩)))
      (by
        unfold Region.wanted
        cases hg : o.guard with
        | none => rfl
        | some gb =>
          obtain ⟨g, b⟩ := gb
          simp only
          have hy : yielded l.toArray (upd a0 (dsOf T 0 l) x).tmps g = yielded l.toArray (depFrame l pvs x o.after.toList a0.tmps) g :=
            yielded_congr fun og d hog hdg => hlook d (List.mem_append_right _ (by rw [hg]; simp [hog, hdg]))
          rw [hy])
      (hK _ fun _ _ h => h) (fun v w' hb' hA => hnext _ _ (⟨fun j hj => ?_, ?_⟩))
    · have hne : i ≠ j := fun e => by
        subst e
        have : T.contains i = true := by simpa using hj
        rw [hiT] at this
        cases this
      rw [getD_set_other hne]
      exact hno j hj
    · have hmono : ∀ j, fact l (pvA pvs) x w j → fact l (pvA pvs) x w' j := fun j h => by
        unfold fact at *
        split
        · rename_i oj hj
          rw [hj] at h
          simp only at h
          split
          · rename_i d hdj
            rw [hdj] at h
            exact Was.later h hb'
          · trivial
        · trivial
      have hbw' : S w' ∧ Below w0.heap.size w0 w' := ⟨hS _ _ hSw hb', hbw.trans (hb'.mono hbw.size)⟩
      cases hdst : o.dst with
      | none =>
        refine ⟨x, rfl, hbw', fun j hjT hjl => ?_⟩
        by_cases hij : i = j
        · subst hij
          unfold fact
          rw [hol]
          simp only [hdst]
        · rw [getD_set_other hij] at hjl
          exact hmono j (hfx j hjT hjl)
      | some d =>
        refine ⟨fun t => if t = d then v else x t, by rw [upd_put _ _ _ _ _ (hdm d hdst)], hbw', fun j hjT hjl => ?_⟩
        by_cases hij : i = j
        · subst hij
          unfold fact
          rw [hol]
          simp only [hdst, if_true]
          exact Was.now (hA (by rw [hdst]; rfl))
        · rw [getD_set_other hij] at hjl
          have hf := hmono j (hfx j hjT hjl)
          unfold fact at hf ⊢
          cases hoj : l[j]? with
          | none => trivial
          | some oj =>
            rw [hoj] at hf
            simp only at hf ⊢
            cases hdj : oj.dst with
            | none => trivial
            | some dj =>
              rw [hdj] at hf
              simp only at hf ⊢
              have hne : dj ≠ d := by
                have h1 := List.all_eq_true.1 hdist i (List.mem_range.2 hil)
                rw [hiT, Bool.false_or] at h1
                have h2 := List.all_eq_true.1 h1 j (List.mem_range.2 (List.getElem?_eq_some_iff.1 hoj).1)
                simp only [hjT, hol, hoj, hdst, hdj, Bool.false_or, Bool.or_eq_true, beq_iff_eq, bne_iff_ne, ne_eq, Option.some.injEq] at h2
                rcases h2 with h3 | h3
                · exact absurd h3 hij
                · exact h3
              rw [if_neg hne]
              exact hf
theorem wpOps_of_list {ops : Array Oper} : ∀ (T : List Nat) (r : List Oper), T.map (fun i => ops[i]?) = r.map some → ∀ a w, wpList P ops Q r a w → wpOps P ops Q T a w := by
  intro T
  induction T with
  | nil =>
    intro r h a w hw
    cases r with
    | nil => exact hw
    | cons o r => simp at h
  | cons i T ih =>
    intro r h a w hw
    cases r with
    | nil => simp at h
    | cons o r =>
      simp only [List.map_cons, List.cons.injEq] at h
      rw [wpOps_cons]
      unfold wpOp
      rw [h.1]
      simp only [wpList] at hw ⊢
      have ih' := ih r h.2
      split
      · rename_i hwt
        rw [if_pos hwt] at hw
        rcases hw with hw | hw
        · exact .inl (Oper.wp_mono (fun a w => ih' a w) hw)
        · exact .inr hw
      · rename_i hwt
        rw [if_neg hwt] at hw
        exact ih' _ _ hw

/-- The values that are to be found: one for each operation of which no predicate is given. -/
def exN : List (Option VP) → (List PV → Prop) → Prop
  | [], k => k []
  | none :: r, k => ∃ v, exN r (fun ps => k (.pure v :: ps))
  | some B :: r, k => exN r (fun ps => k (.pred B :: ps))
theorem exN_elim : ∀ (ks : List (Option VP)) (k : List PV → Prop), exN ks k → ∃ ps, k ps := by
  intro ks
  induction ks with
  | nil => intro k h; exact ⟨[], h⟩
  | cons c r ih =>
    intro k h
    cases c with
    | none => obtain ⟨v, h⟩ := h; obtain ⟨ps, h⟩ := ih _ h; exact ⟨_, h⟩
    | some B => obtain ⟨ps, h⟩ := ih _ h; exact ⟨_, h⟩
/-- The frame behind them. -/
def look : List (Tmp × Value) → Nat → Value → Value
  | [], _, v => v
  | (d, u) :: r, k, v => look r k (if d = k then u else v)
def overlay (ps : List (Tmp × Value)) : Nat → List Value → List Value
  | _, [] => []
  | k, v :: r => look ps k v :: overlay ps (k + 1) r
def pairs (x : Tmp → Value) : List (Option Tmp) → List PV → List (Tmp × Value)
  | some d :: r, .pure v :: ps => (d, v) :: pairs x r ps
  | some d :: r, .pred _ :: ps => (d, x d) :: pairs x r ps
  | none :: r, _ :: ps => pairs x r ps
  | some d :: r, [] => (d, x d) :: pairs x r []
  | none :: r, [] => pairs x r []
  | [], _ => []
def ddOf (T : List Nat) : Nat → List Oper → List (Option Tmp)
  | _, [] => []
  | i, o :: r => (if T.contains i then none else o.dst) :: ddOf T (i + 1) r
theorem overlay_get (ps : List (Tmp × Value)) : ∀ (t : List Value) (k i : Nat), (overlay ps k t)[i]? = (t[i]?).map (look ps (k + i)) := by
  intro t
  induction t with
  | nil => intro k i; simp [overlay]
  | cons v r ih =>
    intro k i
    cases i with
    | zero => simp [overlay]
    | succ i => simp only [overlay, List.getElem?_cons_succ, ih]; rw [show k + 1 + i = k + (i + 1) by omega]
theorem overlay_fold : ∀ (ps : List (Tmp × Value)) (t : Array Value), (overlay ps 0 t.toList).toArray = ps.foldl (fun t p => t.setIfInBounds p.1 p.2) t := by
  intro ps
  induction ps with
  | nil =>
    intro t
    apply Array.ext_getElem?
    intro k
    simp only [List.foldl_nil]
    rw [List.getElem?_toArray, overlay_get]
    simp only [Array.getElem?_toList]
    cases t[k]? <;> rfl
  | cons p ps ih =>
    intro t
    rw [List.foldl_cons, ← ih]
    apply Array.ext_getElem?
    intro k
    rw [List.getElem?_toArray, List.getElem?_toArray, overlay_get, overlay_get]
    simp only [Array.getElem?_toList, Nat.zero_add]
    rw [Array.getElem?_setIfInBounds]
    by_cases h : p.1 = k
    · rw [if_pos h]
      subst h
      by_cases h2 : p.1 < t.size
      · rw [if_pos h2, Array.getElem?_eq_getElem h2]
        simp [look]
      · rw [if_neg h2, Array.getElem?_eq_none (Nat.le_of_not_lt h2)]
        rfl
    · rw [if_neg h]
      cases t[k]? with
      | none => rfl
      | some v => simp only [Option.map_some, look, if_neg h]
theorem pairs_fold {pvs : List PV} {x : Tmp → Value} : ∀ (r : List Oper) (k : Nat) (t : Array Value),
    (∀ i o d v, r[i]? = some o → T.contains (k + i) = false → o.dst = some d → pvs[k + i]? = some (.pure v) → x d = v) →
    (pairs x (ddOf T k r) (pvs.drop k)).foldl (fun t p => t.setIfInBounds p.1 p.2) t = (dsOf T k r).foldl (fun t d => t.setIfInBounds d (x d)) t := by
  intro r
  induction r with
  | nil => intro k t _; unfold ddOf dsOf pairs; rfl
  | cons o r ih =>
    intro k t h
    have hr := fun t => ih (k + 1) t (fun i o d v ho ht hd hv => h (i + 1) o d v (by simpa using ho) (by rw [show k + (i + 1) = k + 1 + i by omega]; exact ht) hd (by rw [show k + (i + 1) = k + 1 + i by omega]; exact hv))
    unfold ddOf dsOf
    cases hp : pvs[k]? with
    | none =>
      have e1 : pvs.drop k = [] := List.drop_eq_nil_of_le (List.getElem?_eq_none_iff.1 hp)
      have e2 : pvs.drop (k + 1) = [] := List.drop_eq_nil_of_le (by have := List.getElem?_eq_none_iff.1 hp; omega)
      rw [e1]
      simp only [e2] at hr
      split
      · exact hr _
      · cases hd : o.dst with
        | none => exact hr _
        | some d => exact hr _
    | some p =>
      have e1 : pvs.drop k = p :: pvs.drop (k + 1) := by
        obtain ⟨hlt, he⟩ := List.getElem?_eq_some_iff.1 hp
        rw [List.drop_eq_getElem_cons hlt, he]
      rw [e1]
      split
      · exact hr _
      · rename_i hT
        cases hd : o.dst with
        | none => exact hr _
        | some d =>
          cases p with
          | pure v =>
            simp only [pairs, List.foldl_cons]
            rw [h 0 o d v rfl (by simpa using hT) hd (by simpa using hp)]
            exact hr _
          | pred B => exact hr _

/-- The operations that are taken first behind the others: they yield in whatever world. -/
def goL (P : Program) (l : List Oper) (k : Act → Prop) : List Nat → Act → Prop
  | [], a => k a
  | i :: r, a => match l[i]? with
    | some o => ∃ v, Yields P l.toArray o v a ∧ goL P l k r (a.put o.dst v)
    | none => False
def lB (l : List Oper) : Array Bool → List Nat → Bool
  | _, [] => true
  | listed, i :: r => Region.noSelect l.toArray && Region.free .any l.toArray listed i && (Region.ready .any l.toArray listed).contains i && lB l (listed.setIfInBounds i true) r
def listAll : Array Bool → List Nat → Array Bool
  | a, [] => a
  | a, i :: r => listAll (a.setIfInBounds i true) r
theorem goL_sound {k : Act → Prop} (hQ : ∀ c d v a w, Q (.panic c) (Act.put a d v) w → Q (.panic c) a w) :
    ∀ (L : List Nat) (fuel : Nat) (listed : Array Bool) (a : Act) (w : World), lB l listed L = true → goL P l k L a →
      (∀ a', k a' → wpAny P .any l.toArray Q fuel (listAll listed L) a' w) → wpAny P .any l.toArray Q (L.length + fuel) listed a w := by
  intro L
  induction L with
  | nil =>
    intro fuel listed a w _ hg h
    rw [List.length_nil, Nat.zero_add]
    exact h a hg
  | cons i r ih =>
    intro fuel listed a w hB hg h
    unfold lB at hB
    simp only [Bool.and_eq_true] at hB
    unfold goL at hg
    cases ho : l[i]? with
    | none => rw [ho] at hg; exact hg.elim
    | some o =>
      rw [ho] at hg
      obtain ⟨v, hy, hg⟩ := hg
      have := ih fuel (listed.setIfInBounds i true) (a.put o.dst v) w hB.2 hg h
      rw [List.length_cons, show r.length + 1 + fuel = (r.length + fuel) + 1 by omega]
      exact wpAny_take (oi := o) (v := v) (by simpa using ho) hB.1.1.1 hB.1.1.2 hB.1.2 (fun c a w => hQ c o.dst v a w) hy this

def seqB (l : List Oper) : Array Bool → List Nat → Bool
  | listed, [] => (Region.ready .any l.toArray listed).isEmpty
  | listed, i :: r => Region.ready .any l.toArray listed == [i] && seqB l (listed.setIfInBounds i true) r
theorem seq_sound : ∀ (T : List Nat) (tl : List Oper) (listed : Array Bool), seqB l listed T = true → T.map (fun i => l.toArray[i]?) = tl.map some →
    ∀ a w, wpList P l.toArray Q tl a w → wpAny P .any l.toArray Q T.length listed a w := by
  intro T
  induction T with
  | nil =>
    intro tl listed hB h a w hw
    cases tl with
    | nil => exact ⟨by simpa [seqB] using hB, hw⟩
    | cons o r => simp at h
  | cons i T ih =>
    intro tl listed hB h a w hw
    cases tl with
    | nil => simp at h
    | cons o r =>
      simp only [seqB, Bool.and_eq_true, beq_iff_eq] at hB
      simp only [List.map_cons, List.cons.injEq] at h
      refine ⟨(fun hr => by rw [hB.1] at hr; cases hr), fun j hj => ?_⟩
      rw [hB.1, List.mem_singleton] at hj
      subst hj
      have ih' := ih r _ hB.2 h.2
      unfold wpOp
      rw [h.1]
      simp only [wpList] at hw ⊢
      split
      · rename_i hwt
        rw [if_pos hwt] at hw
        rcases hw with hw | hw
        · exact .inl (Oper.wp_mono (fun a w => ih' a w) hw)
        · exact .inr hw
      · rename_i hwt
        rw [if_neg hwt] at hw
        exact ih' _ _ hw

/-- **A region that draws its order.** T: the numbers of the operations at the end (stores, assignments), in their order, tl: these. L: operations that come behind the others, too, but lean on no memory. ks: of the others, in their order ('some' for those of T and L, too), what each leaves: none: one value, to be found; a predicate. S: what each may lean on of the world. -/
theorem wp_region_sep {id : Nat} (T L : List Nat) (dd : List (Option Tmp)) (tl : List Oper) (ks : List (Option VP)) (S : World → Prop) (hm : P.follows .mixedOrders = true)
    (hB : (sepB l (T ++ L) (mkCl l) && lB l (sArr l (T ++ L)) L && seqB l (listAll (sArr l (T ++ L)) L) T && decide (L.length + T.length = l.length - cnt (sArr l (T ++ L)))) = true) (hrd : readB l (T ++ L) (dsOf (T ++ L) 0 l) = true)
    (hdd : ddOf (T ++ L) 0 l = dd) (htl : T.map (fun i => l.toArray[i]?) = tl.map some)
    (hsz : (dsOf (T ++ L) 0 l).all (fun d => decide (d < a0.tmps.size)) = true)
    (hQ : ∀ c d v a w, Q (.panic c) (Act.put a d v) w → Q (.panic c) a w)
    (hS0 : S w0) (hS : ∀ w w', S w → Below w.heap.size w w' → S w')
    (h : exN ks fun pvs => allObl P l a0 S pvs (T ++ L) 0 l ∧
      (∀ (x : Tmp → Value) (w : World), S w → Below w0.heap.size w0 w → factsImp l pvs x w (T ++ L) 0 l
        (goL P l (fun a => wpList P l.toArray Q tl a w) L { tmps := (overlay (pairs x dd pvs) 0 a0.tmps.toList).toArray, defers := a0.defers }))) :
    (Code.region id l.toArray true).wp P Q a0 w0 := by
  simp only [Bool.and_eq_true, decide_eq_true_eq] at hB
  obtain ⟨⟨⟨hB, hlB⟩, hsq⟩, hlen⟩ := hB
  obtain ⟨pvs, hop, htail⟩ := exN_elim _ _ h
  refine wp_region_any hm ?_
  have hb0 : Below w0.heap.size w0 { w0 with drawn := w0.drawn + 1 } := ⟨rfl, rfl, rfl, Nat.le_refl _, fun _ _ => rfl⟩
  have h := sep_any (Q := Q) (w0 := w0) hB hrd (fun d hd => of_decide_eq_true (List.all_eq_true.1 hsz d hd)) hS hop (fun x w hSw hb hf => by
      have h1 := factsImp_elim l 0 (fun i => by rw [Nat.zero_add]) (htail x w hSw hb) hf
      rw [← hdd, overlay_fold, show pvs = pvs.drop 0 from rfl, pairs_fold l 0 a0.tmps (fun i o d v ho ht hd hv => by
        rw [Nat.zero_add] at ht hv
        have h2 := hf i ht
        unfold fact at h2
        rw [ho] at h2
        simp only [hd] at h2
        have h3 : pvA pvs i = fun u _ => u = v := by simp only [pvA, hv, PV.vp]
        rw [h3] at h2
        exact Was.eq h2)] at h1
      rw [← hlen]
      exact goL_sound hQ L T.length _ _ _ hlB h1 (fun a' hk => seq_sound T tl _ hsq htl a' w hk))
    l.length (Array.replicate l.length false) (upd a0 (dsOf (T ++ L) 0 l) (fun t => a0.tmps.getD t undef)) { w0 with drawn := w0.drawn + 1 } (by simp)
    (by
      have : cnt (Array.replicate l.length false) = 0 := by unfold cnt; simp [List.countP_replicate]
      omega)
    (fun j o ho hl => by
      have : j < l.length := (List.getElem?_eq_some_iff.1 ho).1
      simp [this] at hl)
    ⟨(fun i _ => by by_cases h : i < l.length <;> simp [h]), _, rfl, ⟨hS _ _ hS0 hb0, hb0⟩, (fun j _ hl => by by_cases h : j < l.length <;> simp [h] at hl)⟩
  have he : upd a0 (dsOf (T ++ L) 0 l) (fun t => a0.tmps.getD t undef) = a0 := by
    have ht : (dsOf (T ++ L) 0 l).foldl (fun t d => t.setIfInBounds d (a0.tmps.getD d undef)) a0.tmps = a0.tmps := by
      apply Array.ext_getElem?
      intro k
      rw [get_fold (fun t => a0.tmps.getD t undef)]
      split
      · rename_i h
        simp [h.2]
      · rfl
    unfold upd
    rw [ht]
  rw [he] at h
  simpa using h
end
end GW
end Go.Proofs.Ytahfmaocihlcnaa
