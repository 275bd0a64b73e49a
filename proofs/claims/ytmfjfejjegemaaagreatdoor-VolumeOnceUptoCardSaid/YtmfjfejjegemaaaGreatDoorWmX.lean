/-
  A part of the proof: an abstract run of the program, shown to be what the model does, and what it comes to.
-/
import Derived.Test.YtmfjfejjegemaaaGreatDoorWmW
set_option linter.unusedVariables false
set_option linter.unusedSimpArgs false
set_option linter.unnecessarySimpa false
set_option linter.defProp false
set_option linter.unusedSectionVars false
namespace Go.Wm
open Go
variable [GlobReq]
noncomputable section

def bodyOf (fn : Func) : Code := fn.body.getD .skip
def resultsOf (fn : Func) : List ResultVar := fn.results.toList
def orE : Option Code → Option Code → Option Code
  | some x, _ => some x
  | none, y => y
theorem orE_some (x : Code) (y : Option Code) : orE (some x) y = some x := rfl
theorem orE_none (y : Option Code) : orE none y = y := rfl
/-- a loop's body, by the region that it begins with -/
def loopOf : Code → Nat → Option Code
  | .seq a b, i => orE (loopOf a i) (loopOf b i)
  | .cond _ a b, i => orE (loopOf a i) (loopOf b i)
  | .block _ b, i => loopOf b i
  | .loop b, i => if Code.first b = i then some b else loopOf b i
  | _, _ => none
def bodyAt (fn : Func) (i : Nat) : Code := (loopOf (bodyOf fn) i).getD .skip

theorem loop_seq (a b : Code) (i : Nat) : loopOf (.seq a b) i = orE (loopOf a i) (loopOf b i) := rfl
theorem loop_cond (c : Operand) (a b : Code) (i : Nat) : loopOf (.cond c a b) i = orE (loopOf a i) (loopOf b i) := rfl
theorem loop_block (j : Nat) (b : Code) (i : Nat) : loopOf (.block j b) i = loopOf b i := rfl
theorem loop_loop (b : Code) (i : Nat) : loopOf (.loop b) i = if Code.first b = i then some b else loopOf b i := rfl
theorem loop_region (j : Nat) (ops : Array Oper) (d : Bool) (i : Nat) : loopOf (.region j ops d) i = none := rfl
theorem loop_skip (i : Nat) : loopOf .skip i = none := rfl
theorem loop_ret (i : Nat) : loopOf .ret i = none := rfl
theorem loop_exit (j i : Nat) : loopOf (.exit j) i = none := rfl
abbrev Spec := List V → St → Option (V × St)
def callOf : List (Nat × Spec) → Nat → Spec
  | [], _, _, _ => none
  | (g, s) :: r, f, args, S => if g = f then s args S else callOf r f args S
def newsOf : List (Nat × Nat) → Nat → Nat
  | [], _ => 0
  | (g, n) :: r, f => if g = f then n else newsOf r f
def keepOf : List (Nat × List Nat) → Nat → Option (List Nat)
  | [], _ => none
  | (g, n) :: r, f => if g = f then some n else keepOf r f
def loopsOf : List (Nat × List Nat × List (Nat × Nat × Nat)) → Nat → Option (List Nat × List (Nat × Nat × Nat))
  | [], _ => none
  | (g, n) :: r, f => if g = f then some n else loopsOf r f

theorem callOk_of {P : Program} {E : Env} {l : List (Nat × Spec)} (he : E.call = callOf l) (h : ∀ p ∈ l, SoundAt P p.1 p.2) : CallOk P E := by
  intro f args S r S' hc
  rw [he] at hc
  clear he
  induction l with
  | nil => cases hc
  | cons p l ih =>
    obtain ⟨g, s⟩ := p
    simp only [callOf] at hc
    by_cases hg : g = f
    · subst hg
      rw [if_pos rfl] at hc
      obtain ⟨h1, h2⟩ := h (g, s) (by simp)
      exact ⟨h1, h2 args S r S' hc⟩
    · rw [if_neg hg] at hc
      exact ih (fun p hp => h p (List.mem_cons_of_mem _ hp)) hc

theorem enters_of {P : Program} {f : Nat} {fn : Func} {c : Code} (hf : P.funcs[f]? = some fn) (hb : fn.body = some c) (hn : (fn.name == "runtime.NumGoroutine") = false) : Enters P f := by
  intro vs w
  simp only [beq_eq_false_iff_ne, ne_eq] at hn
  simp [callFunc, hf, hb, hn]

/-- a function, with what its code needs -/
def fnSpec (E : Env) (fz : Nat) (fn : Func) : Spec := fun args S => if args.length ≤ fn.ntmps then evFn E fz (resultsOf fn) (bodyOf fn) args S else none

theorem soundAt_of {P : Program} {E : Env} {l : List (Nat × Spec)} (hm : P.follows .mixedOrders = true) (hty : TyOk P E.ty) (he : E.call = callOf l) (h : ∀ p ∈ l, SoundAt P p.1 p.2)
    {f : Nat} {fn : Func} (hf : P.funcs[f]? = some fn) (hn : (fn.name == "runtime.NumGoroutine") = false) (hs : (fn.body.isSome && statOk fn.ntmps (bodyOf fn)) = true) (fz : Nat) : SoundAt P f (fnSpec E fz fn) := by
  simp only [Bool.and_eq_true] at hs
  cases hb : fn.body with
  | none => rw [hb] at hs; simp at hs
  | some c =>
    have hbo : bodyOf fn = c := by simp [bodyOf, hb]
    refine ⟨enters_of hf hb hn, fun args S r S' hr => ?_⟩
    unfold fnSpec at hr
    split at hr <;> first | (cases hr; done) | skip
    rename_i ha
    rw [hbo] at hr hs
    exact evFn_ok hty (callOk_of he h) hm hf hb hs.2 ha hr
end
end Go.Wm
