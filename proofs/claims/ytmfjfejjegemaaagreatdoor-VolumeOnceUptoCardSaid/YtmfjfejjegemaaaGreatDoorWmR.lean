/-
  A part of the proof: an abstract run of the program, shown to be what the model does, and what it comes to.
-/
import Derived.Test.YtmfjfejjegemaaaGreatDoorWmQ
set_option linter.unusedVariables false
set_option linter.unusedSimpArgs false
set_option linter.unnecessarySimpa false
set_option linter.defProp false
set_option linter.unusedSectionVars false
namespace Go.Wm
open Go
noncomputable section

/-! ## regions that draw their order -/
def needsMax (E : Env) : Op → Nat
  | .alloc _ | .box _ _ | .makeSlice _ _ _ => 1
  | .buildSlice _ _ _ => if E.rows then 1 else 0
  | .call c =>
    (match c.callee with
     | .builtin b => (match b with | .append => 1 | _ => 0)
     | .value (.func g) => E.news g
     | _ => 0)
  | _ => 0
def argsC (fv : V) (l : List V) : List V :=
  match fv with
  | .fn _ a c => a ++ l ++ c
  | _ => l
def funC : V → Option Nat
  | .d (.fn (.func g)) => some g
  | .fn (.func g) _ _ => some g
  | _ => none
/-- which objects a call looks at -/
def footC (E : Env) (S : St) (fv : V) (l : List V) : Option (List Nat) :=
  if (V.refsL (argsC fv l)).isEmpty then some [] else
    match funC fv with
    | some g => if E.mode g = 0 then some (closure S 200 (V.refsL (V.freezeL (argsC fv l))) []) else if E.mode g = 3 then some (closure S 200 (V.refsL (V.freezeL (argsC fv l))) []) else (if (V.refsL (V.freezeL (V.lookL (applyW S (frzW S (V.refsL (argsC fv l)))) (argsC fv l)))).isEmpty then some (V.refsL (argsC fv l)) else none)
    | none => none
/-- which objects an operation looks at -/
def footR (E : Env) (S : St) (T : Tm) : Op → Option (List Nat)
  | .load _ x => (ev T x).map V.refs
  | .store _ x _ => (ev T x).map V.refs
  | .slice _ x _ _ _ => (ev T x).map V.refs
  | .indexAddr _ x _ => (ev T x).map V.refs
  | .convert _ _ x => (ev T x).map V.refs
  | .call c =>
    (match c.callee with
     | .builtin b => (match b with
        | .append => (evs T c.args.toList).map V.refsL
        | .len => (evs T c.args.toList).map V.refsL
        | .clear => (evs T c.args.toList).map V.refsL
        | _ => some [])
     | .value f => (ev T f).bind fun fv => (evs T c.args.toList).bind fun l => footC E S fv l
     | _ => none)
  | _ => some []
structure Rec where
  val : V
  wr : List (Nat × AObj)
  rd : List Nat
  at_ : Nat
  nd : Nat

def recOf (E : Env) (ops : Array Oper) (at_ : Nat) (T : Tm) (S : St) (o : Oper) : Option Rec :=
  let run := (footR E S T o.op).bind fun rd => (evOp E at_ T S o.op).bind fun r => if needs E T o.op ≤ needsMax E o.op then some (Rec.mk r.1 r.2 rd at_ (needsMax E o.op)) else none
  match o.guard with
  | none => run
  | some (j, want) => (guardOf ops T j).bind fun b => if b = some want then run else some (Rec.mk .und [] [] at_ (needsMax E o.op))
def evOpsD (E : Env) (ops : Array Oper) : List Oper → Nat → Tm → St → Option (Tm × St × List Rec)
  | [], _, T, S => some (T, S, [])
  | o :: os, at_, T, S => (recOf E ops at_ T S o).bind fun r => (evOpsD E ops os (at_ + needsMax E o.op) (T.put o.dst r.val) (applyW S r.wr)).map fun q => (q.1, q.2.1, r :: q.2.2)
def disjB (l m : List Nat) : Bool := l.all fun x => !m.contains x
def keysOf (W : List (Nat × AObj)) : List Nat := W.map (·.1)
def direct (ops : Array Oper) (i j : Nat) : Bool := match ops[j]? with | some o => o.after.any fun e => Region.binds .any e && e.on == i | none => false
/-- by way of another one -/
def via (ops : Array Oper) (i j : Nat) : Bool := match ops[j]? with | some o => o.after.any fun e => Region.binds .any e && direct ops i e.on | none => false
def apartRec (ops : Array Oper) (i j : Nat) (p q : Rec) : Bool :=
  disjB (keysOf p.wr) (List.range' q.at_ q.nd) &&
    (if (direct ops i j || (disjB (keysOf q.wr) (List.range' p.at_ p.nd) && (disjB (keysOf p.wr) q.rd && disjB (keysOf p.wr) (keysOf q.wr) && disjB (keysOf q.wr) p.rd))) = true then true else via ops i j)
def Rec.idle (r : Rec) : Bool := r.rd.isEmpty && r.wr.isEmpty && r.nd == 0
def checkD (ops : Array Oper) : Nat → List (Nat × Rec) → List Rec → Bool
  | _, _, [] => true
  | j, early, r :: rs => if r.idle then checkD ops (j + 1) early rs else (early.all fun p => apartRec ops p.1 j p.2 r) && checkD ops (j + 1) (early ++ [(j, r)]) rs
def totalMax (E : Env) (ops : List Oper) : Nat := match ops with | [] => 0 | o :: r => needsMax E o.op + totalMax E r
def evDraw (E : Env) (ops : Array Oper) (T : Tm) (S : St) : Option (Tm × St) :=
  (evOpsD E ops ops.toList S.length T (padS S (totalMax E ops.toList))).bind fun q => if checkD ops 0 [] q.2.2 then some (q.1, q.2.1) else none

/-- of two operations the later one waits for the earlier one, or they have nothing to do with each other -/
def pairB (ops : Array Oper) : Bool :=
  (List.range ops.size).all fun j => match ops[j]? with
    | none => true
    | some oj => (oj.after.all fun e => !Region.binds .any e || decide (e.on < j)) && (List.range j).all fun i => direct ops i j || (match ops[i]? with | some oi => oi.apart ops oj | none => true)

/-! ### an operation hangs on what it looks at alone -/
def tmpsOf (l : List Operand) : List Nat := l.filterMap fun | .tmp t => some t | _ => none
theorem ev_congr {T T' : Tm} {x : Operand} (h : ∀ t, x = .tmp t → T.get t = T'.get t) : ev T x = ev T' x := by
  cases x <;> simp [ev]
  exact h _ rfl
theorem evs_congr {T T' : Tm} : ∀ {l : List Operand}, (∀ t, Operand.tmp t ∈ l → T.get t = T'.get t) → evs T l = evs T' l
  | [], _ => rfl
  | x :: r, h => by
    simp only [evs]
    rw [ev_congr (T' := T') (fun t ht => h t (by rw [ht]; simp)), evs_congr (T' := T') (fun t ht => h t (List.mem_cons_of_mem _ ht))]
theorem evParts_congr {T T' : Tm} : ∀ {l : List (Nat × Operand)}, (∀ t, Operand.tmp t ∈ l.map (·.2) → T.get t = T'.get t) → evParts T l = evParts T' l
  | [], _ => rfl
  | (i, x) :: r, h => by
    simp only [evParts]
    rw [ev_congr (T' := T') (fun t ht => h t (by rw [ht]; simp)), evParts_congr (T' := T') (fun t ht => h t (by simp at ht ⊢; exact .inr ht))]
theorem evO_congr {T T' : Tm} {x : Option Operand} (h : ∀ t, x = some (.tmp t) → T.get t = T'.get t) : evO T x = evO T' x := by
  cases x with
  | none => rfl
  | some x => simp only [evO]; rw [ev_congr (T' := T') (fun t ht => h t (by rw [ht]))]

theorem refsL_append : ∀ (l m : List V), V.refsL (l ++ m) = V.refsL l ++ V.refsL m
  | [], m => rfl
  | x :: r, m => by simp [V.refsL, refsL_append r m]

theorem callFn0_congr (E : Env) (at_ : Nat) (S S' : St) (g : Nat) (args : List V) (h : V.refsL args = []) : callFn0 E at_ S g args = callFn0 E at_ S' g args := by
  unfold callFn0
  rw [h]
  simp only [closure, focus]
  rfl

theorem frzW_congr {S S' : St} : ∀ {ids : List Nat}, (∀ o ∈ ids, S[o]? = S'[o]?) → frzW S ids = frzW S' ids
  | [], _ => rfl
  | o :: r, h => by
    simp only [frzW]
    rw [h o (by simp), frzW_congr (ids := r) (fun o ho => h o (List.mem_cons_of_mem _ ho))]
theorem applyW_at_congr {x : Nat} : ∀ (W : List (Nat × AObj)) (S S' : St), S[x]? = S'[x]? → (applyW S W)[x]? = (applyW S' W)[x]?
  | [], _, _, h => h
  | p :: W, S, S', h => by
    show (applyW (S.set p.1 p.2) W)[x]? = (applyW (S'.set p.1 p.2) W)[x]?
    refine applyW_at_congr W _ _ ?_
    rw [List.getElem?_set, List.getElem?_set]
    by_cases hx : p.1 = x
    · have : x < S.length ↔ x < S'.length := by
        constructor <;> intro hlt
        · rcases Nat.lt_or_ge x S'.length with h' | h'
          · exact h'
          · rw [List.getElem?_eq_none h'] at h; simp at h; omega
        · rcases Nat.lt_or_ge x S.length with h' | h'
          · exact h'
          · rw [List.getElem?_eq_none h'] at h; have := h.symm; simp at this; omega
      subst hx
      by_cases h1 : p.1 < S.length
      · simp [h1, this.1 h1]
      · have h2 : ¬ p.1 < S'.length := fun h => h1 (this.2 h)
        simp [h1, h2]
    · simp [hx, h]
mutual
theorem V.look_congr {S S' : St} : ∀ (v : V), (∀ o ∈ v.refs, S[o]? = S'[o]?) → v.look S = v.look S'
  | .any, _ => rfl
  | .und, _ => rfl
  | .d x, _ => rfl
  | .nil, _ => rfl
  | .emp, _ => rfl
  | .fsl xs, _ => rfl
  | .cptr x off, _ => rfl
  | .own t xs, _ => rfl
  | .csl o lo n, _ => rfl
  | .ptr o off, _ => rfl
  | .eptr o i off, _ => rfl
  | .mp o, _ => rfl
  | .fn g a c, _ => rfl
  | .sl o lo n, h => by
    simp only [V.look]
    rw [h o (by simp [V.refs])]
  | .agg cs, h => by
    simp only [V.look]
    rw [V.lookL_congr cs (by simpa [V.refs] using h)]
  | .tup cs, h => by
    simp only [V.look]
    rw [V.lookL_congr cs (by simpa [V.refs] using h)]
theorem V.lookL_congr {S S' : St} : ∀ (l : List V), (∀ o ∈ V.refsL l, S[o]? = S'[o]?) → V.lookL S l = V.lookL S' l
  | [], _ => rfl
  | x :: r, h => by
    simp only [V.lookL]
    rw [V.look_congr x (fun o ho => h o (by simp [V.refsL, ho])), V.lookL_congr r (fun o ho => h o (by simp [V.refsL, ho]))]
end

theorem mkAgg_refs {cs : List V} (h : V.refsL cs = []) : (mkAgg cs).refs = [] := refs_mkAgg h
mutual
theorem look_refs (T : St) : ∀ (v : V), v.refs = [] → (v.look T).refs = []
  | .any, _ => rfl
  | .und, _ => rfl
  | .d x, _ => rfl
  | .nil, _ => rfl
  | .emp, _ => rfl
  | .fsl xs, _ => rfl
  | .cptr x off, _ => rfl
  | .own t xs, h => h
  | .ptr o off, h => h
  | .eptr o i off, h => h
  | .mp o, h => h
  | .fn g a c, h => h
  | .sl o lo n, h => by simp [V.refs] at h
  | .csl o lo n, h => by simp [V.refs] at h
  | .agg cs, h => by
    simp only [V.look]
    exact mkAgg_refs (lookL_refs T cs (by simpa [V.refs] using h))
  | .tup cs, h => by
    simp only [V.look, V.refs]
    exact lookL_refs T cs (by simpa [V.refs] using h)
theorem lookL_refs (T : St) : ∀ (l : List V), V.refsL l = [] → V.refsL (V.lookL T l) = []
  | [], _ => rfl
  | x :: r, h => by
    simp only [V.refsL, List.append_eq_nil_iff] at h
    simp only [V.lookL, V.refsL, look_refs T x h.1, lookL_refs T r h.2, List.append_nil]
end

theorem callFn_congr (E : Env) (at_ : Nat) (S S' : St) (g : Nat) (args : List V) (h : V.refsL args = [] ∨ (E.mode g ≠ 0 ∧ E.mode g ≠ 3 ∧ V.refsL (V.freezeL (V.lookL (applyW S (frzW S (V.refsL args))) args)) = []))
    (h2 : ∀ o ∈ V.refsL args, S[o]? = S'[o]?) : callFn E at_ S g args = callFn E at_ S' g args := by
  have e1 := frzW_congr (S := S) (S' := S') (ids := V.refsL args) h2
  have e2 : V.lookL (applyW S (frzW S (V.refsL args))) args = V.lookL (applyW S' (frzW S' (V.refsL args))) args := by
    rw [← e1]
    exact V.lookL_congr args fun o ho => applyW_at_congr _ _ _ (h2 o ho)
  unfold callFn
  split
  · rename_i hm
    have h0 : V.refsL args = [] := by
      rcases h with h | ⟨h, _⟩
      · exact h
      · exact absurd hm h
    exact callFn0_congr E at_ S S' g _ (V.refsL_freezeL _ h0)
  · rw [e2]
  · rename_i hm
    have h0 : V.refsL args = [] := by
      rcases h with h | ⟨_, h, _⟩
      · exact h
      · exact absurd hm h
    have h1 := V.refsL_freezeL _ h0
    rw [callFn0_congr E at_ S S' g _ h1, h1]
    have c1 : closure S 200 [] [] = [] := rfl
    have c2 : closure S' 200 [] [] = [] := rfl
    rw [c1, c2]
    cases callFn0 E at_ S' g (V.freezeL args) with
    | none => rfl
    | some r =>
      simp only [kRo]
      rw [propext (unch_congr (ids := []) (S := S) (S' := S') (fun o ho => by cases ho) r.2)]
  · rw [e2, e1]
    congr 1
    refine callFn0_congr E at_ _ _ g _ ?_
    rcases h with h | ⟨_, _, h⟩
    · rw [h] at e1 ⊢
      have key : ∀ (T : St) (l : List V), V.refsL l = [] → V.refsL (V.freezeL (V.lookL T l)) = [] := by
        intro T l hl
        have : ∀ (l : List V), V.refsL l = [] → V.lookL T l = V.lookL [] l := fun l hl => V.lookL_congr l fun o ho => by rw [hl] at ho; cases ho
        refine V.refsL_freezeL _ ?_
        exact lookL_refs T l hl
      exact key _ args h
    · rw [e2] at h
      exact h

theorem closure_acc (S : St) : ∀ (n : Nat) (r acc : List Nat) (o : Nat), o ∈ acc → o ∈ closure S n r acc
  | 0, _, _, _, h => h
  | _ + 1, [], _, _, h => h
  | n + 1, i :: r, acc, o, h => by
    simp only [closure]
    split
    · exact closure_acc S n r acc o h
    · exact closure_acc S n _ _ o (by simp [h])
theorem closure_congr {S S' : St} : ∀ (n : Nat) (r acc : List Nat), (∀ o ∈ closure S n r acc, S[o]? = S'[o]?) → closure S n r acc = closure S' n r acc
  | 0, _, _, _ => rfl
  | _ + 1, [], _, _ => rfl
  | n + 1, i :: r, acc, h => by
    simp only [closure] at h ⊢
    split at h
    · rename_i hc
      simp only [hc, if_true]
      exact closure_congr n r acc h
    · rename_i hc
      simp only [hc, if_false, Bool.false_eq_true]
      have hi := h i (closure_acc S n _ _ i (by simp))
      rw [← hi]
      exact closure_congr n _ _ h
theorem focus_congr {f : Nat → Option Nat} {S S' : St} : ∀ {ids : List Nat}, (∀ o ∈ ids, S[o]? = S'[o]?) → focus f S ids = focus f S' ids
  | [], _ => rfl
  | i :: r, h => by
    simp only [focus]
    rw [h i (by simp), focus_congr (ids := r) fun o ho => h o (List.mem_cons_of_mem _ ho)]
theorem callFn_congr0 (E : Env) (at_ : Nat) (S S' : St) (g : Nat) (args : List V) (hm : E.mode g = 0 ∨ E.mode g = 3) (h : ∀ o ∈ closure S 200 (V.refsL (V.freezeL args)) [], S[o]? = S'[o]?) : callFn E at_ S g args = callFn E at_ S' g args := by
  have h0 : callFn0 E at_ S g (V.freezeL args) = callFn0 E at_ S' g (V.freezeL args) := by
    simp only [callFn0]
    rw [← closure_congr 200 _ _ h, focus_congr h]
  unfold callFn
  rcases hm with hm | hm
  · rw [hm]
    exact h0
  · rw [hm]
    simp only
    rw [← h0, ← closure_congr 200 _ _ h]
    cases callFn0 E at_ S g (V.freezeL args) with
    | none => rfl
    | some r =>
      simp only [kRo]
      rw [propext (unch_congr h r.2)]

theorem sliceOf_congr {S S' : St} {x : V} (h : ∀ o ∈ x.refs, S[o]? = S'[o]?) : sliceOf S x = sliceOf S' x := by
  unfold sliceOf
  cases x with
  | d y => cases y <;> rfl
  | sl o lo n => simp only [rowAt, h o (by simp [V.refs])]
  | _ => rfl
theorem evOp_congr {E : Env} {at_ : Nat} {T T' : Tm} {S S' : St} {op : Op} {rd : List Nat} (h1 : ∀ t, Operand.tmp t ∈ op.operands.toList → T.get t = T'.get t) (hrd : footR E S T op = some rd)
    (h2 : ∀ o ∈ rd, S[o]? = S'[o]?) : evOp E at_ T S op = evOp E at_ T' S' op := by
  have one : ∀ {x : Operand}, x ∈ op.operands.toList → ev T x = ev T' x := fun {x} hx => ev_congr fun t ht => h1 t (ht ▸ hx)
  have hrow : ∀ o ∈ rd, rowAt S o = rowAt S' o := fun o ho => by unfold rowAt; rw [h2 o ho]
  cases op <;> simp only [evOp] <;> simp only [Op.operands] at h1 one
  case move x => rw [one (by simp)]
  case assign x => rw [one (by simp)]
  case pick c x y => rw [one (x := c) (by simp), one (x := x) (by simp), one (x := y) (by simp)]
  case box t x => rw [one (by simp)]
  case build t ps => rw [evParts_congr (T' := T') (fun t ht => h1 t (by simpa using ht))]
  case buildSlice t k ps => rw [evParts_congr (T' := T') (fun t ht => h1 t (by simpa using ht))]
  case load t x =>
    rw [← one (x := x) (by simp)]
    cases hx : ev T x with
    | none => rfl
    | some v =>
      simp only [footR, hx, Option.map_some, Option.some.injEq] at hrd
      subst hrd
      simp only [Option.bind_some]
      congr 1
      unfold ldV
      cases v <;> first | rfl | skip
      · rename_i o' off'
        have := h2 o' (by simp [V.refs])
        simp only [this]
      · rename_i o' i' off'
        have := hrow o' (by simp [V.refs])
        simp only [this]
  case store t x y =>
    rw [← one (x := x) (by simp), ← one (x := y) (by simp)]
    cases hx : ev T x with
    | none => rfl
    | some v =>
      simp only [footR, hx, Option.map_some, Option.some.injEq] at hrd
      subst hrd
      simp only [Option.bind_some]
      cases hy : ev T y with
      | none => rfl
      | some u =>
        simp only [Option.bind_some]
        congr 1
        unfold stV
        cases v <;> first | rfl | skip
        · rename_i o' off'
          have := h2 o' (by simp [V.refs])
          simp only [this]
        · rename_i o' i' off'
          have := h2 o' (by simp [V.refs])
          simp only [this]
  case nilCheck x => rw [one (by simp)]
  case binOp op t x y t2 => rw [one (x := x) (by simp), one (x := y) (by simp)]
  case unOp op t x => rw [one (by simp)]
  case convert s d x =>
    rw [← one (x := x) (by simp)]
    cases hx : ev T x with
    | none => rfl
    | some v =>
      simp only [footR, hx, Option.map_some, Option.some.injEq] at hrd
      subst hrd
      simp only [Option.bind_some]
      congr 1
      have : sliceOf S v = sliceOf S' v := sliceOf_congr h2
      have hb : ∀ i, convB E S i v = convB E S' i v := fun i => by unfold convB; rw [this]
      unfold convV
      simp only [hb]
  case makeFunc f p q => rw [evs_congr (T' := T') (l := p.toList) (fun t ht => h1 t (by simp at ht ⊢; exact .inl ht)), evs_congr (T' := T') (l := q.toList) (fun t ht => h1 t (by simp at ht ⊢; exact .inr ht))]
  case makeSlice t n c => rw [one (x := n) (by simp), one (x := c) (by simp)]
  case slice t x lo hi mx =>
    rw [← one (x := x) (by simp), evO_congr (T' := T') (x := lo) (fun t ht => h1 t (by subst ht; simp)), evO_congr (T' := T') (x := hi) (fun t ht => h1 t (by subst ht; simp)), evO_congr (T' := T') (x := mx) (fun t ht => h1 t (by subst ht; simp))]
    cases hx : ev T x with
    | none => rfl
    | some v =>
      simp only [footR, hx, Option.map_some, Option.some.injEq] at hrd
      subst hrd
      simp only [Option.bind_some]
      congr 1
      funext lo'
      congr 1
      funext hi'
      congr 1
      funext mx'
      unfold sliceV
      cases v <;> first | rfl | skip
      · rename_i y; cases y <;> rfl
      · rename_i o' lo' n'
        have := hrow o' (by simp [V.refs])
        simp only [this]
  case fieldAddr t x f => rw [one (by simp)]
  case field t x f => rw [one (by simp)]
  case indexAddr t x i =>
    rw [← one (x := x) (by simp), one (x := i) (by simp)]
    cases hx : ev T x with
    | none => rfl
    | some v =>
      simp only [footR, hx, Option.map_some, Option.some.injEq] at hrd
      subst hrd
      simp only [Option.bind_some]
      congr 1
      funext i'
      congr 1
      funext k'
      congr 1
      have hs : sliceOf S v = sliceOf S' v := sliceOf_congr h2
      unfold idxA
      rw [hs]
      cases v with
      | sl o' lo' n' =>
        have := hrow o' (by simp [V.refs])
        simp only [this]
      | _ => rfl
  case index t x i => rw [one (x := x) (by simp), one (x := i) (by simp)]
  case extract x n => rw [one (by simp)]
  case call c =>
    unfold evCall
    have hargs : evs T c.args.toList = evs T' c.args.toList := evs_congr fun t ht => h1 t (by simp [Call.operands] at ht ⊢; exact .inr ht)
    rw [← hargs]
    cases ha : evs T c.args.toList with
    | none => rfl
    | some l =>
      simp only [Option.bind_some]
      cases hc : c.callee with
      | invoke r m => rfl
      | value f =>
        have hf : ev T f = ev T' f := ev_congr fun t ht => h1 t (by simp [Call.operands, hc, ht])
        simp only [← hf]
        cases hfv : ev T f with
        | none => rfl
        | some fv =>
          simp only [footR, hc, hfv, ha, Option.bind_some] at hrd
          have key : ∀ g, funC fv = some g → callFn E at_ S g (argsC fv l) = callFn E at_ S' g (argsC fv l) := by
            intro g hg
            unfold footC at hrd
            split at hrd
            · rename_i he
              simp only [List.isEmpty_iff] at he
              exact callFn_congr E at_ S S' g _ (.inl he) (by rw [he]; intro o ho; cases ho)
            · rw [hg] at hrd
              simp only at hrd
              split at hrd
              · rename_i hm
                cases hrd
                exact callFn_congr0 E at_ S S' g _ (.inl hm) h2
              · rename_i hm0
                split at hrd
                · rename_i hm
                  cases hrd
                  exact callFn_congr0 E at_ S S' g _ (.inr hm) h2
                split at hrd <;> first | (cases hrd; done) | skip
                rename_i hm hr
                simp only [List.isEmpty_iff] at hr
                cases hrd
                exact callFn_congr E at_ S S' g _ (.inr ⟨hm0, hm, hr⟩) h2
          simp only [Option.bind_some]
          split
          · rename_i g; exact key g rfl
          · rename_i g first cap; exact key g rfl
          · rfl
      | builtin b =>
        have hrefs : ∀ x ∈ l, ∀ o ∈ x.refs, o ∈ V.refsL l := by
          clear ha hargs
          induction l with
          | nil => intro x hx; cases hx
          | cons y l ih =>
            intro x hx o ho
            simp only [V.refsL, List.mem_append]
            rcases List.mem_cons.1 hx with rfl | hx
            · exact .inl ho
            · exact .inr (ih x hx o ho)
        have hsl : ∀ x ∈ l, (∀ o ∈ V.refsL l, S[o]? = S'[o]?) → sliceOf S x = sliceOf S' x := fun x hx h => by
          exact sliceOf_congr fun o ho => h o (hrefs _ hx o ho)
        cases b <;> first | rfl | (rcases l with _ | ⟨x, _ | ⟨y, r⟩⟩ <;> rfl) | skip
        case len =>
          simp only [footR, hc, ha, Option.map_some, Option.some.injEq] at hrd
          subst hrd
          match l, h2 with
          | [], _ => rfl
          | x :: y :: r, _ => rfl
          | [x], h2 =>
            simp only
            have : ∀ d, lenOf S d x = lenOf S' d x := fun d => by
              unfold lenOf
              cases x with
              | sl o' lo' n' =>
                have := h2 o' (by simp [V.refsL, V.refs])
                simp only [rowAt, this]
              | mp o' =>
                have := h2 o' (by simp [V.refsL, V.refs])
                simp only [this]
              | d y => cases d <;> cases y <;> rfl
              | _ => cases d <;> rfl
            simp only [this]
        case clear =>
          simp only [footR, hc, ha, Option.map_some, Option.some.injEq] at hrd
          subst hrd
          match l, h2 with
          | [], _ => rfl
          | x :: y :: r, _ => rfl
          | [x], h2 =>
            simp only
            have : ∀ t, clearV E t S x = clearV E t S' x := fun t => by
              unfold clearV
              cases x <;> first | rfl | skip
              rename_i o' lo' n'
              have := h2 o' (by simp [V.refsL, V.refs])
              simp only [this]
            simp only [this]
        case append =>
          simp only [footR, hc, ha, Option.map_some, Option.some.injEq] at hrd
          subst hrd
          match l, h2, hsl with
          | [], _, _ => rfl
          | [x], _, _ => rfl
          | x :: y :: z :: r, _, _ => rfl
          | [x, y], h2, hsl =>
            simp only
            have hy := hsl y (by simp) h2
            have : ∀ t, appendV E at_ t S x y = appendV E at_ t S' x y := fun t => by
              unfold appendV
              rw [hy]
              cases x with
              | own o' _ =>
                have := h2 o' (by simp [V.refsL, V.refs])
                simp only [this]
              | sl o' _ _ =>
                have := h2 o' (by simp [V.refsL, V.refs])
                simp only [this]
              | csl o' _ _ =>
                have := h2 o' (by simp [V.refsL, V.refs])
                simp only [rowAt, this]
              | _ => rfl
            simp only [this]
  all_goals rfl

end
end Go.Wm
