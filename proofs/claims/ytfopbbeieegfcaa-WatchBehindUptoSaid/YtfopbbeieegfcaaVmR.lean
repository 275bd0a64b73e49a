/-
  A part of the proof: an abstract run of the program, shown to be what the model does, and what it comes to.
-/
import Derived.Test.YtfopbbeieegfcaaVmQ
set_option linter.unusedVariables false
set_option linter.unusedSimpArgs false
set_option linter.unusedSectionVars false
set_option linter.unnecessarySimpa false
namespace Go.Vm
open Go

/-! ## regions that draw their order -/
def needsMax (E : Env) : Op → Nat
  | .alloc _ | .box _ _ => 1
  | .call c =>
    (match c.callee with
     | .builtin b => (match b with | .append => 1 | _ => 0)
     | .value (.func g) => E.news g
     | _ => 0)
  | _ => 0
/-- which objects an operation looks at -/
def footR (T : Tm) : Op → Option (List Nat)
  | .load _ x => (ev T x).map V.refs
  | .store _ x _ => (ev T x).map V.refs
  | .call c =>
    (match c.callee with
     | .builtin b => (match b with | .append => (c.args.toList.head?).bind fun x => (ev T x).map V.refs | _ => some [])
     | .value f => (ev T f).bind fun fv => (evs T c.args.toList).bind fun l => if (fv.refs ++ V.refsL l).isEmpty then some [] else none
     | _ => none)
  | _ => some []
structure Rec where
  val : V
  wr : List (Nat × AObj)
  rd : List Nat
  at_ : Nat
  nd : Nat

def recOf (E : Env) (ops : Array Oper) (at_ : Nat) (T : Tm) (S : St) (o : Oper) : Option Rec :=
  let run := (footR T o.op).bind fun rd => (evOp E at_ T S o.op).bind fun r => if needs E T o.op ≤ needsMax E o.op then some (Rec.mk r.1 r.2 rd at_ (needsMax E o.op)) else none
  match o.guard with
  | none => run
  | some (j, want) => (guardOf ops T j).bind fun b => if b = want then run else some (Rec.mk .any [] [] at_ (needsMax E o.op))
def evOpsD (E : Env) (ops : Array Oper) : List Oper → Nat → Tm → St → Option (Tm × St × List Rec)
  | [], _, T, S => some (T, S, [])
  | o :: os, at_, T, S => (recOf E ops at_ T S o).bind fun r => (evOpsD E ops os (at_ + needsMax E o.op) (T.put o.dst r.val) (applyW S r.wr)).map fun q => (q.1, q.2.1, r :: q.2.2)
def disjB (l m : List Nat) : Bool := l.all fun x => !m.contains x
def keysOf (W : List (Nat × AObj)) : List Nat := W.map (·.1)
def direct (ops : Array Oper) (i j : Nat) : Bool := match ops[j]? with | some o => o.after.any fun e => Region.binds .any e && e.on == i | none => false
def apartRec (ops : Array Oper) (i j : Nat) (p q : Rec) : Bool :=
  disjB (keysOf p.wr) (List.range' q.at_ q.nd) && disjB (keysOf q.wr) (List.range' p.at_ p.nd) &&
    (direct ops i j || (disjB (keysOf p.wr) q.rd && disjB (keysOf p.wr) (keysOf q.wr) && disjB (keysOf q.wr) p.rd))
def Rec.idle (r : Rec) : Bool := r.rd.isEmpty && r.wr.isEmpty && r.nd == 0
def checkD (ops : Array Oper) : Nat → List (Nat × Rec) → List Rec → Bool
  | _, _, [] => true
  | j, early, r :: rs => if r.idle then checkD ops (j + 1) early rs else (early.all fun p => apartRec ops p.1 j p.2 r) && checkD ops (j + 1) (early ++ [(j, r)]) rs
def totalMax (E : Env) (ops : List Oper) : Nat := match ops with | [] => 0 | o :: r => needsMax E o.op + totalMax E r
def evDraw (E : Env) (ops : Array Oper) (T : Tm) (S : St) : Option (Tm × St) :=
  (evOpsD E ops ops.toList S.length T (padS S (totalMax E ops.toList))).bind fun q => if checkD ops 0 [] q.2.2 then some (q.1, q.2.1) else none

/-- of two operations the later one waits for the earlier one, or they have nothing to do with each other -/
def pairB (ops : Array Oper) : Bool :=
  (List.range ops.size).all fun j => match ops[j]? with
    | none => true
    | some oj => (oj.after.all fun e => !Region.binds .any e || decide (e.on < j)) && (List.range j).all fun i => direct ops i j || (match ops[i]? with | some oi => oi.apart ops oj | none => true)

/-! ### an operation hangs on what it looks at alone -/
def tmpsOf (l : List Operand) : List Nat := l.filterMap fun | .tmp t => some t | _ => none
theorem ev_congr {T T' : Tm} {x : Operand} (h : ∀ t, x = .tmp t → T.get t = T'.get t) : ev T x = ev T' x := by
  cases x <;> simp [ev]
  exact h _ rfl
theorem evs_congr {T T' : Tm} : ∀ {l : List Operand}, (∀ t, Operand.tmp t ∈ l → T.get t = T'.get t) → evs T l = evs T' l
  | [], _ => rfl
  | x :: r, h => by
    simp only [evs]
    rw [ev_congr (T' := T') (fun t ht => h t (by rw [ht]; simp)), evs_congr (T' := T') (fun t ht => h t (List.mem_cons_of_mem _ ht))]
theorem evParts_congr {T T' : Tm} : ∀ {l : List (Nat × Operand)}, (∀ t, Operand.tmp t ∈ l.map (·.2) → T.get t = T'.get t) → evParts T l = evParts T' l
  | [], _ => rfl
  | (i, x) :: r, h => by
    simp only [evParts]
    rw [ev_congr (T' := T') (fun t ht => h t (by rw [ht]; simp)), evParts_congr (T' := T') (fun t ht => h t (by simp at ht ⊢; exact .inr ht))]
theorem evO_congr {T T' : Tm} {x : Option Operand} (h : ∀ t, x = some (.tmp t) → T.get t = T'.get t) : evO T x = evO T' x := by
  cases x with
  | none => rfl
  | some x => simp only [evO]; rw [ev_congr (T' := T') (fun t ht => h t (by rw [ht]))]

theorem callFn_congr (E : Env) (at_ : Nat) (S S' : St) (g : Nat) (args : List V) (h : V.refsL args = []) : callFn E at_ S g args = callFn E at_ S' g args := by
  unfold callFn callFn0
  rw [V.refsL_freezeL _ h]
  simp only [closure, focus]
  rfl

theorem refsL_append : ∀ (l m : List V), V.refsL (l ++ m) = V.refsL l ++ V.refsL m
  | [], m => rfl
  | x :: r, m => by simp [V.refsL, refsL_append r m]

theorem evOp_congr {E : Env} {at_ : Nat} {T T' : Tm} {S S' : St} {op : Op} {rd : List Nat} (h1 : ∀ t, Operand.tmp t ∈ op.operands.toList → T.get t = T'.get t) (hrd : footR T op = some rd)
    (h2 : ∀ o ∈ rd, S[o]? = S'[o]?) : evOp E at_ T S op = evOp E at_ T' S' op := by
  have one : ∀ {x : Operand}, x ∈ op.operands.toList → ev T x = ev T' x := fun {x} hx => ev_congr fun t ht => h1 t (ht ▸ hx)
  cases op <;> simp only [evOp] <;> simp only [Op.operands] at h1 one
  case move x => rw [one (by simp)]
  case assign x => rw [one (by simp)]
  case pick c x y => rw [one (x := c) (by simp), one (x := x) (by simp), one (x := y) (by simp)]
  case box t x => rw [one (by simp)]
  case build t ps => rw [evParts_congr (T' := T') (fun t ht => h1 t (by simpa using ht))]
  case buildSlice t k ps => rw [evParts_congr (T' := T') (fun t ht => h1 t (by simpa using ht))]
  case load t x =>
    rw [← one (x := x) (by simp)]
    cases hx : ev T x with
    | none => rfl
    | some v =>
      simp only [footR, hx, Option.map_some, Option.some.injEq] at hrd
      subst hrd
      simp only [Option.bind_some]
      congr 1
      unfold ldV
      cases v <;> first | rfl | skip
      rename_i o' off'
      have := h2 o' (by simp [V.refs])
      simp only [this]
  case store t x y =>
    rw [← one (x := x) (by simp), ← one (x := y) (by simp)]
    cases hx : ev T x with
    | none => rfl
    | some v =>
      simp only [footR, hx, Option.map_some, Option.some.injEq] at hrd
      subst hrd
      simp only [Option.bind_some]
      cases hy : ev T y with
      | none => rfl
      | some u =>
        simp only [Option.bind_some]
        congr 1
        unfold stV
        cases v <;> first | rfl | skip
        rename_i o' off'
        have := h2 o' (by simp [V.refs])
        simp only [this]
  case nilCheck x => rw [one (by simp)]
  case binOp op t x y t2 => rw [one (x := x) (by simp), one (x := y) (by simp)]
  case unOp op t x => rw [one (by simp)]
  case convert s d x => rw [one (by simp)]
  case makeFunc f p q => rw [evs_congr (T' := T') (l := p.toList) (fun t ht => h1 t (by simp at ht ⊢; exact .inl ht)), evs_congr (T' := T') (l := q.toList) (fun t ht => h1 t (by simp at ht ⊢; exact .inr ht))]
  case slice t x lo hi mx =>
    rw [one (x := x) (by simp), evO_congr (T' := T') (x := lo) (fun t ht => h1 t (by subst ht; simp)), evO_congr (T' := T') (x := hi) (fun t ht => h1 t (by subst ht; simp)), evO_congr (T' := T') (x := mx) (fun t ht => h1 t (by subst ht; simp))]
  case fieldAddr t x f => rw [one (by simp)]
  case field t x f => rw [one (by simp)]
  case indexAddr t x i => rw [one (x := x) (by simp), one (x := i) (by simp)]
  case index t x i => rw [one (x := x) (by simp), one (x := i) (by simp)]
  case extract x n => rw [one (by simp)]
  case call c =>
    unfold evCall
    have hargs : evs T c.args.toList = evs T' c.args.toList := evs_congr fun t ht => h1 t (by simp [Call.operands] at ht ⊢; exact .inr ht)
    rw [← hargs]
    cases ha : evs T c.args.toList with
    | none => rfl
    | some l =>
      simp only [Option.bind_some]
      cases hc : c.callee with
      | invoke r m => rfl
      | value f =>
        have hf : ev T f = ev T' f := ev_congr fun t ht => h1 t (by simp [Call.operands, hc, ht])
        simp only [← hf]
        cases hfv : ev T f with
        | none => rfl
        | some fv =>
          simp only [footR, hc, hfv, ha, Option.bind_some] at hrd
          split at hrd <;> cases hrd
          rename_i he
          simp only [List.isEmpty_iff, List.append_eq_nil_iff] at he
          simp only [Option.bind_some]
          split
          · exact callFn_congr E at_ S S' _ _ he.2
          · rename_i g first cap
            refine callFn_congr E at_ S S' _ _ ?_
            simp only [V.refs, List.append_eq_nil_iff] at he
            rw [refsL_append, refsL_append, he.1.1, he.1.2, he.2]
            rfl
          · rfl
      | builtin b =>
        cases b <;> first | rfl | (rcases l with _ | ⟨x, _ | ⟨y, r⟩⟩ <;> rfl) | skip
        -- append
        match l, ha with
        | [], _ => rfl
        | [x], _ => rfl
        | x :: y :: z :: r, _ => rfl
        | [x, y], ha =>
          simp only
          have he : (c.args.toList.head?).bind (fun x => (ev T x).map V.refs) = some x.refs := by
            cases hl : c.args.toList with
            | nil => rw [hl] at ha; simp [evs] at ha
            | cons x0 r0 =>
              rw [hl] at ha
              simp only [evs] at ha
              cases hx0 : ev T x0 with
              | none => simp [hx0] at ha
              | some v0 =>
                simp only [hx0, Option.bind_some, Option.map_eq_some_iff] at ha
                obtain ⟨_, _, hh⟩ := ha
                simp only [List.cons.injEq] at hh
                simp [hx0, hh.1]
          simp only [footR, hc, he, Option.some.injEq] at hrd
          subst hrd
          have : ∀ t, appendV E at_ t S x y = appendV E at_ t S' x y := fun t => by
            unfold appendV
            cases x with
            | own o' _ _ _ =>
              have := h2 o' (by simp [V.refs])
              simp only [this]
            | d z =>
              cases z with
              | sl nn sz xs => cases nn <;> cases xs <;> rfl
              | _ => rfl
            | _ => rfl
          simp only [this]

end Go.Vm
