/-
  A part of the proof: an abstract run of the program, shown to be what the model does, and what it comes to.
-/
import Derived.Test.YtmfjfejjegemaaaGreatDoorWmX
set_option linter.unusedVariables false
set_option linter.unusedSimpArgs false
set_option linter.unnecessarySimpa false
set_option linter.defProp false
set_option linter.unusedSectionVars false
namespace Go.Wm
open Go
noncomputable section

/-! ## rules, without functions in them: a rewriter walks into a function's body before it knows what it is handed -/
def binO (E : Env) (c : Bool) (op : BinOp) (t : Nat) : Option V → Option V → Option V
  | some x, some y => (binV E c op t x y).map .d
  | _, _ => none
def unO (op : UnOp) : Option V → Option V
  | some x => (unV op x).map .d
  | none => none
def convO (E : Env) (S : St) (s d : Nat) : Option V → Option V
  | some x => convV E S s d x
  | none => none
def nilO : Option V → Option V
  | some x => nilV x
  | none => none
def sliceO (E : Env) (t : Nat) (S : St) : Option V → Option (Option V) → Option (Option V) → Option (Option V) → Option (V × List (Nat × AObj))
  | some x, some lo, some hi, some mx => sliceV E t S x lo hi mx
  | _, _, _, _ => none
def fldAO (E : Env) (t f : Nat) : Option V → Option V
  | some x => fldA E t f x
  | none => none
def fldO (E : Env) (t f : Nat) : Option V → Option V
  | some x => fldV E t f x
  | none => none
def intO : Option V → Option Int
  | some x => (intOf x).map (·.2)
  | none => none
def idxAO (E : Env) (t : Nat) (S : St) : Option V → Option Int → Option V
  | some x, some k => idxA E t S x k
  | _, _ => none
def idxO (E : Env) (t : Nat) : Option V → Option V → Option V
  | some x, some k => indexV E t x k
  | _, _ => none
def ldO (E : Env) (t : Nat) (S : St) : Option V → Option V
  | some x => ldV E t S x
  | none => none
def stO (E : Env) (t : Nat) (S : St) : Option V → Option V → Option (Nat × AObj)
  | some x, some y => stV E t S x y
  | _, _ => none
def extractO (n : Nat) : Option V → Option V
  | some x => extractV n x
  | none => none
def buildO (E : Env) (t : Nat) : Option (List (Nat × V)) → Option V
  | some l => buildV E t l
  | none => none
def buildSliceO (E : Env) (at_ t n : Nat) : Option (List (Nat × V)) → Option (V × List (Nat × AObj))
  | some l => buildSliceV E at_ t n l
  | none => none
def fnO (f : Fn) : Option (List V) → Option (List V) → Option V
  | some a, some c => some (fnV f a c)
  | _, _ => none
def consO {α : Type} : Option α → Option (List α) → Option (List α)
  | some x, some l => some (x :: l)
  | _, _ => none
def pairO (i : Nat) : Option V → Option (Nat × V)
  | some x => some (i, x)
  | none => none
def boolO : Option V → Option Bool
  | some x => boolOf x
  | none => none

/-- what follows an operation that writes nothing -/
def kPut (E : Env) (ops : Array Oper) (d : Option Tmp) (os : List Oper) (T : Tm) (S : St) : Option V → Option (Tm × St)
  | some v => evOps E ops os (T.put d v) S
  | none => none
def kStore (E : Env) (ops : Array Oper) (d : Option Tmp) (os : List Oper) (T : Tm) (S : St) : Option (Nat × AObj) → Option (Tm × St)
  | some q => evOps E ops os (T.put d .any) (S.set q.1 q.2)
  | none => none
def kAlloc (E : Env) (ops : Array Oper) (d : Option Tmp) (os : List Oper) (T : Tm) (S : St) : Option TI → Option (Tm × St)
  | some i => evOps E ops os (T.put d (.ptr S.length 0)) (S ++ [.box (i.zero)])
  | none => none
def kBox (E : Env) (ops : Array Oper) (d : Option Tmp) (os : List Oper) (T : Tm) (S : St) : Option V → Option (Tm × St)
  | some v => if v.boxable then evOps E ops os (T.put d (.ptr S.length 0)) (S ++ [.box v.cells]) else none
  | none => none
def kPick (E : Env) (ops : Array Oper) (d : Option Tmp) (os : List Oper) (T : Tm) (S : St) (x y : Operand) : Option Bool → Option (Tm × St)
  | some b => if b then kPut E ops d os T S (ev T x) else kPut E ops d os T S (ev T y)
  | none => none
def kCall (E : Env) (ops : Array Oper) (d : Option Tmp) (os : List Oper) (T : Tm) (S : St) : Option (V × List (Nat × AObj)) → Option (Tm × St)
  | some r => evOps E ops os (T.put d r.1) (applyW S r.2)
  | none => none
def kGuard (E : Env) (ops : Array Oper) (o : Oper) (want : Bool) (os : List Oper) (T : Tm) (S : St) : Option (Option Bool) → Option (Tm × St)
  | some b => if b = some want then evOps E ops (o :: os) T S else evOps E ops os (T.put o.dst .und) S
  | none => none

section
variable (E : Env) (ops : Array Oper) (d : Option Tmp) (t : TypeId) (p : String) (a : Array Edge) (os : List Oper) (T : Tm) (S : St)

theorem padS_zero : padS S 0 = S := by simp [padS]
theorem padS_one : padS S 1 = S ++ [.dead] := rfl
theorem applyW_nil : applyW S [] = S := rfl
theorem applyW_cons (i : Nat) (x : AObj) (W : List (Nat × AObj)) : applyW S ((i, x) :: W) = applyW (S.set i x) W := rfl

theorem evs_nil : evs T [] = some [] := rfl
theorem evs_cons (x : Operand) (r : List Operand) : evs T (x :: r) = consO (ev T x) (evs T r) := by
  simp only [evs]
  cases ev T x with
  | none => rfl
  | some v => cases evs T r <;> rfl
theorem evParts_nil : evParts T [] = some [] := rfl
theorem evParts_cons (i : Nat) (x : Operand) (r : List (Nat × Operand)) : evParts T ((i, x) :: r) = consO (pairO i (ev T x)) (evParts T r) := by
  simp only [evParts]
  cases ev T x with
  | none => rfl
  | some v => cases evParts T r <;> rfl

theorem st_nil : evOps E ops [] T S = some (T, S) := rfl
theorem st_guard (op : Op) (j : Nat) (want : Bool) : evOps E ops (Oper.mk d op t p a (some (j, want)) :: os) T S = kGuard E ops (Oper.mk d op t p a none) want os T S (guardOf ops T j) := by
  simp only [evOps]
  cases guardOf ops T j <;> rfl
theorem st_move (x : Operand) : evOps E ops (Oper.mk d (.move x) t p a none :: os) T S = kPut E ops d os T S (ev T x) := by
  simp only [evOps, evOp, needs, padS_zero]
  cases ev T x <;> rfl
theorem st_assign (x : Operand) : evOps E ops (Oper.mk d (.assign x) t p a none :: os) T S = kPut E ops d os T S (ev T x) := by
  simp only [evOps, evOp, needs, padS_zero]
  cases ev T x <;> rfl
theorem st_pick (c x y : Operand) : evOps E ops (Oper.mk d (.pick c x y) t p a none :: os) T S = kPick E ops d os T S x y (boolO (ev T c)) := by
  simp only [evOps, evOp, needs, padS_zero]
  cases ev T c with
  | none => rfl
  | some c =>
    simp only [Option.bind_some, boolO]
    cases boolOf c with
    | none => rfl
    | some b =>
      cases b
      · simp only [Option.bind_some, Bool.false_eq_true, if_false, kPick]
        cases ev T y <;> rfl
      · simp only [Option.bind_some, if_true, kPick]
        cases ev T x <;> rfl
theorem st_alloc (u : TypeId) : evOps E ops (Oper.mk d (.alloc u) t p a none :: os) T S = kAlloc E ops d os T S (E.ty u) := by
  simp only [evOps, evOp, needs, padS_one]
  cases E.ty u with
  | none => rfl
  | some i => simp only [Option.map_some, Option.bind_some, applyW_cons, applyW_nil, kAlloc]; rw [List.set_append_right _ _ (Nat.le_refl _)]; simp
theorem st_box (u : TypeId) (x : Operand) : evOps E ops (Oper.mk d (.box u x) t p a none :: os) T S = kBox E ops d os T S (ev T x) := by
  simp only [evOps, evOp, needs, padS_one]
  cases ev T x with
  | none => rfl
  | some v =>
    simp only [Option.bind_some, kBox]
    split
    · simp only [Option.bind_some, applyW_cons, applyW_nil]; rw [List.set_append_right _ _ (Nat.le_refl _)]; simp
    · rfl
theorem st_build (u : TypeId) (ps : Array (Nat × Operand)) : evOps E ops (Oper.mk d (.build u ps) t p a none :: os) T S = kPut E ops d os T S (buildO E u (evParts T ps.toList)) := by
  simp only [evOps, evOp, needs, padS_zero]
  cases evParts T ps.toList with
  | none => rfl
  | some l => simp only [Option.bind_some, buildO]; cases buildV E u l <;> rfl
theorem st_buildSlice (u n : Nat) (ps : Array (Nat × Operand)) : evOps E ops (Oper.mk d (.buildSlice u n ps) t p a none :: os) T S = kCall E ops d os T (padS S (if E.rows then 1 else 0)) (buildSliceO E S.length u n (evParts T ps.toList)) := by
  simp only [evOps, evOp, needs]
  cases evParts T ps.toList with
  | none => rfl
  | some l => simp only [Option.bind_some, buildSliceO]; cases buildSliceV E S.length u n l <;> rfl
theorem st_load (u : TypeId) (x : Operand) : evOps E ops (Oper.mk d (.load u x) t p a none :: os) T S = kPut E ops d os T S (ldO E u S (ev T x)) := by
  simp only [evOps, evOp, needs, padS_zero]
  cases ev T x with
  | none => rfl
  | some v => simp only [Option.bind_some, ldO]; cases ldV E u S v <;> rfl
theorem st_store (u : TypeId) (x y : Operand) : evOps E ops (Oper.mk d (.store u x y) t p a none :: os) T S = kStore E ops d os T S (stO E u S (ev T x) (ev T y)) := by
  simp only [evOps, evOp, needs, padS_zero]
  cases ev T x with
  | none => cases ev T y <;> rfl
  | some v =>
    simp only [Option.bind_some]
    cases ev T y with
    | none => rfl
    | some y => simp only [Option.bind_some, stO]; cases stV E u S v y <;> rfl
theorem st_nilCheck (x : Operand) : evOps E ops (Oper.mk d (.nilCheck x) t p a none :: os) T S = kPut E ops d os T S (nilO (ev T x)) := by
  simp only [evOps, evOp, needs, padS_zero]
  cases ev T x with
  | none => rfl
  | some v => simp only [Option.bind_some, nilO]; cases nilV v <;> rfl
theorem st_binOp (op : BinOp) (u : TypeId) (x y : Operand) (u2 : TypeId) : evOps E ops (Oper.mk d (.binOp op u x y u2) t p a none :: os) T S = kPut E ops d os T S (binO E (isConst x || isConst y) op u (ev T x) (ev T y)) := by
  simp only [evOps, evOp, needs, padS_zero]
  cases ev T x with
  | none => cases ev T y <;> rfl
  | some v =>
    simp only [Option.bind_some]
    cases ev T y with
    | none => rfl
    | some z => simp only [Option.bind_some, binO]; cases binV E (isConst x || isConst y) op u v z <;> rfl
theorem st_unOp (op : UnOp) (u : TypeId) (x : Operand) : evOps E ops (Oper.mk d (.unOp op u x) t p a none :: os) T S = kPut E ops d os T S (unO op (ev T x)) := by
  simp only [evOps, evOp, needs, padS_zero]
  cases ev T x with
  | none => rfl
  | some v => simp only [Option.bind_some, unO]; cases unV op v <;> rfl
theorem st_convert (s u : TypeId) (x : Operand) : evOps E ops (Oper.mk d (.convert s u x) t p a none :: os) T S = kPut E ops d os T S (convO E S s u (ev T x)) := by
  simp only [evOps, evOp, needs, padS_zero]
  cases ev T x with
  | none => rfl
  | some v => simp only [Option.bind_some, convO]; cases convV E S s u v <;> rfl
theorem st_makeFunc (f : Fn) (x y : Array Operand) : evOps E ops (Oper.mk d (.makeFunc f x y) t p a none :: os) T S = kPut E ops d os T S (fnO f (evs T x.toList) (evs T y.toList)) := by
  simp only [evOps, evOp, needs, padS_zero]
  cases evs T x.toList with
  | none => cases evs T y.toList <;> rfl
  | some v => simp only [Option.bind_some]; cases evs T y.toList <;> rfl
theorem st_slice (u : TypeId) (x : Operand) (lo hi mx : Option Operand) : evOps E ops (Oper.mk d (.slice u x lo hi mx) t p a none :: os) T S = kCall E ops d os T S (sliceO E u S (ev T x) (evO T lo) (evO T hi) (evO T mx)) := by
  simp only [evOps, evOp, needs, padS_zero]
  cases ev T x with
  | none => cases evO T lo <;> cases evO T hi <;> cases evO T mx <;> rfl
  | some v =>
    simp only [Option.bind_some]
    cases evO T lo with
    | none => cases evO T hi <;> cases evO T mx <;> rfl
    | some lo =>
      simp only [Option.bind_some]
      cases evO T hi with
      | none => cases evO T mx <;> rfl
      | some hi =>
        simp only [Option.bind_some]
        cases evO T mx with
        | none => rfl
        | some mx => simp only [Option.bind_some, sliceO]; cases sliceV E u S v lo hi mx <;> rfl
def mkSlO (E : Env) (at_ t : Nat) : Option V → Option V → Option (V × Nat × AObj)
  | some n, some c => makeSliceV E at_ t n c
  | _, _ => none
def kMk (E : Env) (ops : Array Oper) (d : Option Tmp) (os : List Oper) (T : Tm) (S : St) : Option (V × Nat × AObj) → Option (Tm × St)
  | some r => evOps E ops os (T.put d r.1) ((S ++ [AObj.dead]).set r.2.1 r.2.2)
  | none => none
theorem st_makeSlice (u : TypeId) (x y : Operand) : evOps E ops (Oper.mk d (.makeSlice u x y) t p a none :: os) T S = kMk E ops d os T S (mkSlO E S.length u (ev T x) (ev T y)) := by
  simp only [evOps, evOp, needs, padS_one]
  cases ev T x with
  | none => cases ev T y <;> rfl
  | some v =>
    simp only [Option.bind_some]
    cases ev T y with
    | none => rfl
    | some y => simp only [Option.bind_some, mkSlO]; cases makeSliceV E S.length u v y <;> rfl
theorem kMk_some (r : V × Nat × AObj) : kMk E ops d os T S (some r) = evOps E ops os (T.put d r.1) ((S ++ [AObj.dead]).set r.2.1 r.2.2) := rfl
theorem mkSlO_some (at_ u : Nat) (x y : V) : mkSlO E at_ u (some x) (some y) = makeSliceV E at_ u x y := rfl
def ifcO : Option TI → Option V
  | some i => match i.desc with | .ifc => none | _ => some (.d .err)
  | none => none
theorem st_makeInterface (u : TypeId) (x : Operand) : evOps E ops (Oper.mk d (.makeInterface u x) t p a none :: os) T S = kPut E ops d os T S (ifcO (E.ty u)) := by
  simp only [evOps, evOp, needs, padS_zero]
  cases E.ty u with
  | none => rfl
  | some i => simp only [Option.bind_some, ifcO]; cases i.desc <;> rfl
theorem ifcO_some (i : TI) : ifcO (some i) = match i.desc with | .ifc => none | _ => some (.d .err) := rfl
theorem st_fieldAddr (u : TypeId) (x : Operand) (f : Nat) : evOps E ops (Oper.mk d (.fieldAddr u x f) t p a none :: os) T S = kPut E ops d os T S (fldAO E u f (ev T x)) := by
  simp only [evOps, evOp, needs, padS_zero]
  cases ev T x with
  | none => rfl
  | some v => simp only [Option.bind_some, fldAO]; cases fldA E u f v <;> rfl
theorem st_field (u : TypeId) (x : Operand) (f : Nat) : evOps E ops (Oper.mk d (.field u x f) t p a none :: os) T S = kPut E ops d os T S (fldO E u f (ev T x)) := by
  simp only [evOps, evOp, needs, padS_zero]
  cases ev T x with
  | none => rfl
  | some v => simp only [Option.bind_some, fldO]; cases fldV E u f v <;> rfl
theorem st_indexAddr (u : TypeId) (x i : Operand) : evOps E ops (Oper.mk d (.indexAddr u x i) t p a none :: os) T S = kPut E ops d os T S (idxAO E u S (ev T x) (intO (ev T i))) := by
  simp only [evOps, evOp, needs, padS_zero]
  cases ev T x with
  | none => cases intO (ev T i) <;> rfl
  | some v =>
    simp only [Option.bind_some]
    cases ev T i with
    | none => rfl
    | some i =>
      simp only [Option.bind_some, intO]
      cases intOf i with
      | none => rfl
      | some k => simp only [Option.bind_some, Option.map_some, idxAO]; cases idxA E u S v k.2 <;> rfl
theorem st_index (u : TypeId) (x i : Operand) : evOps E ops (Oper.mk d (.index u x i) t p a none :: os) T S = kPut E ops d os T S (idxO E u (ev T x) (ev T i)) := by
  simp only [evOps, evOp, needs, padS_zero]
  cases ev T x with
  | none => cases ev T i <;> rfl
  | some v =>
    simp only [Option.bind_some]
    cases ev T i with
    | none => rfl
    | some i => simp only [Option.bind_some, idxO]; cases indexV E u v i <;> rfl
theorem st_extract (x : Operand) (n : Nat) : evOps E ops (Oper.mk d (.extract x n) t p a none :: os) T S = kPut E ops d os T S (extractO n (ev T x)) := by
  simp only [evOps, evOp, needs, padS_zero]
  cases ev T x with
  | none => rfl
  | some v => simp only [Option.bind_some, extractO]; cases extractV n v <;> rfl
theorem st_call (c : Call) : evOps E ops (Oper.mk d (.call c) t p a none :: os) T S =
    kCall E ops d os T (padS S (needs E T (.call c))) (evCall E S.length T (padS S (needs E T (.call c))) c) := by
  simp only [evOps, evOp]
  cases evCall E S.length T (padS S (needs E T (.call c))) c <;> rfl

theorem kPut_some (v : V) : kPut E ops d os T S (some v) = evOps E ops os (T.put d v) S := rfl
theorem kPut_none : kPut E ops d os T S none = none := rfl
theorem kPut_ite (c : Prop) [Decidable c] (x y : Option V) : kPut E ops d os T S (if c then x else y) = if c then kPut E ops d os T S x else kPut E ops d os T S y := by split <;> rfl
theorem kStore_some (q : Nat × AObj) : kStore E ops d os T S (some q) = evOps E ops os (T.put d .any) (S.set q.1 q.2) := rfl
theorem kStore_none : kStore E ops d os T S none = none := rfl
theorem kStore_ite (c : Prop) [Decidable c] (x y : Option (Nat × AObj)) : kStore E ops d os T S (if c then x else y) = if c then kStore E ops d os T S x else kStore E ops d os T S y := by split <;> rfl
theorem kAlloc_some (i : TI) : kAlloc E ops d os T S (some i) = evOps E ops os (T.put d (.ptr S.length 0)) (S ++ [.box (i.zero)]) := rfl
theorem kBox_some (v : V) : kBox E ops d os T S (some v) = if v.boxable then evOps E ops os (T.put d (.ptr S.length 0)) (S ++ [.box v.cells]) else none := rfl
theorem kBox_none : kBox E ops d os T S none = none := rfl
theorem kPick_some (x y : Operand) (b : Bool) : kPick E ops d os T S x y (some b) = if b then kPut E ops d os T S (ev T x) else kPut E ops d os T S (ev T y) := rfl
theorem kCall_some (r : V × List (Nat × AObj)) : kCall E ops d os T S (some r) = evOps E ops os (T.put d r.1) (applyW S r.2) := rfl
theorem kCall_none : kCall E ops d os T S none = none := rfl
theorem kCall_ite (c : Prop) [Decidable c] (x y : Option (V × List (Nat × AObj))) : kCall E ops d os T S (if c then x else y) = if c then kCall E ops d os T S x else kCall E ops d os T S y := by split <;> rfl
theorem kGuard_tt (o : Oper) : kGuard E ops o true os T S (some (some true)) = evOps E ops (o :: os) T S := rfl
theorem kGuard_tf (o : Oper) : kGuard E ops o true os T S (some (some false)) = evOps E ops os (T.put o.dst .und) S := rfl
theorem kGuard_ft (o : Oper) : kGuard E ops o false os T S (some (some true)) = evOps E ops os (T.put o.dst .und) S := rfl
theorem kGuard_ff (o : Oper) : kGuard E ops o false os T S (some (some false)) = evOps E ops (o :: os) T S := rfl
theorem kGuard_und (o : Oper) (w : Bool) : kGuard E ops o w os T S (some none) = evOps E ops os (T.put o.dst .und) S := rfl
theorem kGuard_t (o : Oper) (b : Bool) : kGuard E ops o true os T S (some (some b)) = if b then evOps E ops (o :: os) T S else evOps E ops os (T.put o.dst .und) S := by cases b <;> rfl
theorem kGuard_f (o : Oper) (b : Bool) : kGuard E ops o false os T S (some (some b)) = if b then evOps E ops os (T.put o.dst .und) S else evOps E ops (o :: os) T S := by cases b <;> rfl
theorem kGuard_none (o : Oper) (w : Bool) : kGuard E ops o w os T S none = none := rfl
end

/-! ### code -/
def kRegion (keep : Option (List Nat)) : Option (Tm × St) → Option (Tm × St × Ex)
  | some q => some (clean keep q.1, q.2, .normal)
  | none => none
def kSeq (E : Env) (base : Nat) (b : Code) : Option (Tm × St × Ex) → Option (Tm × St × Ex)
  | some q => match q.2.2 with | .normal => evCode E base b q.1 q.2.1 | e => some (q.1, q.2.1, e)
  | none => none
def kCond (E : Env) (base : Nat) (x y : Code) (T : Tm) (S : St) : Option Bool → Option (Tm × St × Ex)
  | some b => if b then evCode E base x T S else evCode E base y T S
  | none => none
def kBlock (id : Nat) : Option (Tm × St × Ex) → Option (Tm × St × Ex)
  | some q => some (q.1, q.2.1, q.2.2.leave id)
  | none => none
def kHead (E : Env) (base : Nat) (b : Code) : Option (Tm × St) → Option (Tm × St × Ex)
  | some h => evLoop E base b h.1 h.2
  | none => none
def kRound (E : Env) (base : Nat) (b : Code) : Option (Tm × St × Ex) → Option (Tm × St × Ex)
  | some q => match q.2.2 with | .normal => evCode E base (.loop b) q.1 q.2.1 | e => some (q.1, q.2.1, e)
  | none => none
def kFn (E : Env) (fz : Nat) (results : List ResultVar) (base : Nat) : Option (Tm × St × Ex) → Option (V × St)
  | some q => if endOf q.2.2 then (evRes E q.1 q.2.1 results).bind fun rs => finish base (castS fz base (oneOf rs) q.2.1).1 (castS fz base (oneOf rs) q.2.1).2 else none
  | none => none
def kRes (base : Nat) (fz : Nat) (S : St) : Option (List V) → Option (V × St)
  | some rs => finish base (castS fz base (oneOf rs) S).1 (castS fz base (oneOf rs) S).2
  | none => none

section
variable (E : Env) (base : Nat) (T : Tm) (S : St)
theorem c_region (id : Nat) (ops : Array Oper) : evCode E base (.region id ops false) T S = kRegion (E.keep id) (evOps E ops ops.toList T S) := by
  rw [evCode_region]; cases evOps E ops ops.toList T S <;> rfl
theorem c_draw (id : Nat) (ops : Array Oper) : evCode E base (.region id ops true) T S = kRegion (E.keep id) (evDraw E ops T S) := by
  rw [evCode_draw]; cases evDraw E ops T S <;> rfl
theorem c_seq (a b : Code) : evCode E base (.seq a b) T S = kSeq E base b (evCode E base a T S) := by
  rw [evCode_seq]; cases evCode E base a T S <;> rfl
theorem c_cond (c : Operand) (x y : Code) : evCode E base (.cond c x y) T S = kCond E base x y T S (boolO (ev T c)) := by
  rw [evCode_cond]
  cases ev T c with
  | none => rfl
  | some v => simp only [Option.bind_some, boolO]; cases boolOf v <;> rfl
theorem c_block (id : Nat) (b : Code) : evCode E base (.block id b) T S = kBlock id (evCode E base b T S) := by
  rw [evCode_block]; cases evCode E base b T S <;> rfl
theorem c_loop (b : Code) : evCode E base (.loop b) T S = kHead E base b (head E base (Code.first b) T S) := by
  rw [evCode_loop]; cases head E base (Code.first b) T S <;> rfl
theorem c_round (b : Code) : evLoop E base b T S = kRound E base b (evCode E base b T S) := by
  unfold evLoop; cases evCode E base b T S <;> rfl
theorem kRegion_some (keep : Option (List Nat)) : kRegion keep (some (T, S)) = some (clean keep T, S, .normal) := rfl
theorem kRegion_none (keep : Option (List Nat)) : kRegion keep none = none := rfl
theorem kRegion_ite (keep : Option (List Nat)) (c : Prop) [Decidable c] (x y : Option (Tm × St)) : kRegion keep (if c then x else y) = if c then kRegion keep x else kRegion keep y := by split <;> rfl
theorem kSeq_normal (b : Code) : kSeq E base b (some (T, S, .normal)) = evCode E base b T S := rfl
theorem kSeq_ret (b : Code) : kSeq E base b (some (T, S, .ret)) = some (T, S, .ret) := rfl
theorem kSeq_exit (b : Code) (i : Nat) : kSeq E base b (some (T, S, .exit i)) = some (T, S, .exit i) := rfl
theorem kSeq_none (b : Code) : kSeq E base b none = none := rfl
theorem kSeq_ite (b : Code) (c : Prop) [Decidable c] (x y : Option (Tm × St × Ex)) : kSeq E base b (if c then x else y) = if c then kSeq E base b x else kSeq E base b y := by split <;> rfl
theorem kCond_true (x y : Code) : kCond E base x y T S (some true) = evCode E base x T S := rfl
theorem kCond_false (x y : Code) : kCond E base x y T S (some false) = evCode E base y T S := rfl
theorem kCond_some (x y : Code) (b : Bool) : kCond E base x y T S (some b) = if b then evCode E base x T S else evCode E base y T S := rfl
theorem kBlock_normal (i : Nat) : kBlock i (some (T, S, .normal)) = some (T, S, .normal) := rfl
theorem kBlock_ret (i : Nat) : kBlock i (some (T, S, .ret)) = some (T, S, .ret) := rfl
theorem kBlock_exit (i j : Nat) : kBlock i (some (T, S, .exit j)) = some (T, S, if j = i then .normal else .exit j) := rfl
theorem kBlock_none (i : Nat) : kBlock i none = none := rfl
theorem kBlock_ite (i : Nat) (c : Prop) [Decidable c] (x y : Option (Tm × St × Ex)) : kBlock i (if c then x else y) = if c then kBlock i x else kBlock i y := by split <;> rfl
theorem kHead_some (b : Code) : kHead E base b (some (T, S)) = evLoop E base b T S := rfl
theorem kHead_none (b : Code) : kHead E base b none = none := rfl
theorem kRound_normal (b : Code) : kRound E base b (some (T, S, .normal)) = evCode E base (.loop b) T S := rfl
theorem kRound_ret (b : Code) : kRound E base b (some (T, S, .ret)) = some (T, S, .ret) := rfl
theorem kRound_exit (b : Code) (i : Nat) : kRound E base b (some (T, S, .exit i)) = some (T, S, .exit i) := rfl
theorem kRound_none (b : Code) : kRound E base b none = none := rfl
theorem kRound_ite (b : Code) (c : Prop) [Decidable c] (x y : Option (Tm × St × Ex)) : kRound E base b (if c then x else y) = if c then kRound E base b x else kRound E base b y := by split <;> rfl
theorem c_fn (fz : Nat) (results : List ResultVar) (c : Code) (args : List V) : evFn E fz results c args S = kFn E fz results S.length (evCode E S.length c (argsT args 0) S) := by
  unfold evFn; cases evCode E S.length c (argsT args 0) S <;> rfl
theorem kFn_normal (fz : Nat) (results : List ResultVar) : kFn E fz results base (some (T, S, .normal)) = kRes base fz S (evRes E T S results) := by
  unfold kFn; simp only [endOf, if_true]; cases evRes E T S results <;> rfl
theorem kFn_ret (fz : Nat) (results : List ResultVar) : kFn E fz results base (some (T, S, .ret)) = kRes base fz S (evRes E T S results) := by
  unfold kFn; simp only [endOf, if_true]; cases evRes E T S results <;> rfl
theorem kFn_none (fz : Nat) (results : List ResultVar) : kFn E fz results base none = none := rfl
theorem kFn_ite (fz : Nat) (results : List ResultVar) (c : Prop) [Decidable c] (x y : Option (Tm × St × Ex)) : kFn E fz results base (if c then x else y) = if c then kFn E fz results base x else kFn E fz results base y := by split <;> rfl
theorem kRes_some (fz : Nat) (rs : List V) : kRes base fz S (some rs) = finish base (castS fz base (oneOf rs) S).1 (castS fz base (oneOf rs) S).2 := rfl
theorem r_nil : evRes E T S [] = some [] := rfl
theorem r_tmp (t : Tmp) (r : List ResultVar) : evRes E T S (.tmp t :: r) = consO (some (T.get t)) (evRes E T S r) := by
  simp only [evRes]; cases evRes E T S r <;> rfl
theorem r_cell (x t : Nat) (r : List ResultVar) : evRes E T S (.cell x t :: r) = consO (ldV E t S (T.get x)) (evRes E T S r) := by
  simp only [evRes]
  cases ldV E t S (T.get x) with
  | none => rfl
  | some v => cases evRes E T S r <;> rfl
end

/-! ### regions that draw -/
def evOpsA (E : Env) (ops : Array Oper) : List Oper → Nat → Tm → St → List Rec → Option (Tm × St)
  | [], _, T, S, acc => if checkD ops 0 [] acc then some (T, S) else none
  | o :: os, at_, T, S, acc => match recOf E ops at_ T S o with
    | some r => evOpsA E ops os (at_ + needsMax E o.op) (T.put o.dst r.val) (applyW S r.wr) (acc ++ [r])
    | none => none
def kRec (E : Env) (ops : Array Oper) (os : List Oper) (at_ : Nat) (d : Option Tmp) (T : Tm) (S : St) (acc : List Rec) : Option Rec → Option (Tm × St)
  | some r => evOpsA E ops os at_ (T.put d r.val) (applyW S r.wr) (acc ++ [r])
  | none => none
theorem evOpsA_eq (E : Env) (ops : Array Oper) : ∀ (os : List Oper) (at_ : Nat) (T : Tm) (S : St) (acc : List Rec),
    evOpsA E ops os at_ T S acc = (evOpsD E ops os at_ T S).bind fun q => if checkD ops 0 [] (acc ++ q.2.2) then some (q.1, q.2.1) else none
  | [], at_, T, S, acc => by simp [evOpsA, evOpsD]
  | o :: os, at_, T, S, acc => by
    simp only [evOpsA, evOpsD]
    cases recOf E ops at_ T S o with
    | none => rfl
    | some r =>
      simp only [Option.bind_some]
      rw [evOpsA_eq E ops os]
      cases evOpsD E ops os (at_ + needsMax E o.op) (T.put o.dst r.val) (applyW S r.wr) with
      | none => rfl
      | some q => simp
theorem d_start (E : Env) (ops : Array Oper) (T : Tm) (S : St) : evDraw E ops T S = evOpsA E ops ops.toList S.length T (padS S (totalMax E ops.toList)) [] := by
  rw [evOpsA_eq]
  rfl
theorem d_nil (E : Env) (ops : Array Oper) (at_ : Nat) (T : Tm) (S : St) (acc : List Rec) : evOpsA E ops [] at_ T S acc = if checkD ops 0 [] acc then some (T, S) else none := rfl
theorem d_cons (E : Env) (ops : Array Oper) (o : Oper) (os : List Oper) (at_ : Nat) (T : Tm) (S : St) (acc : List Rec) :
    evOpsA E ops (o :: os) at_ T S acc = kRec E ops os (at_ + needsMax E o.op) o.dst T S acc (recOf E ops at_ T S o) := by
  simp only [evOpsA]
  cases recOf E ops at_ T S o <;> rfl
theorem kRec_some (E : Env) (ops : Array Oper) (os : List Oper) (at_ : Nat) (d : Option Tmp) (T : Tm) (S : St) (acc : List Rec) (r : Rec) :
    kRec E ops os at_ d T S acc (some r) = evOpsA E ops os at_ (T.put d r.val) (applyW S r.wr) (acc ++ [r]) := rfl
theorem kRec_none (E : Env) (ops : Array Oper) (os : List Oper) (at_ : Nat) (d : Option Tmp) (T : Tm) (S : St) (acc : List Rec) : kRec E ops os at_ d T S acc none = none := rfl
theorem kRec_ite (E : Env) (ops : Array Oper) (os : List Oper) (at_ : Nat) (d : Option Tmp) (T : Tm) (S : St) (acc : List Rec) (c : Prop) [Decidable c] (x y : Option Rec) :
    kRec E ops os at_ d T S acc (if c then x else y) = if c then kRec E ops os at_ d T S acc x else kRec E ops os at_ d T S acc y := by split <;> rfl

/-- a call that looks at no object -/
def recC (at_ n m : Nat) (rd : List Nat) : Option (V × List (Nat × AObj)) → Option Rec
  | some r => if n ≤ m then some ⟨r.1, r.2, rd, at_, m⟩ else none
  | none => none
def refsO : Option V → List Nat
  | some v => v.refs
  | none => []
/-- a load -/
def recL (at_ : Nat) (rd : List Nat) : Option V → Option Rec
  | some v => some ⟨v, [], rd, at_, 0⟩
  | none => none
/-- a record of an operation that looks at no object -/
def recP (at_ : Nat) : Option V → Option Rec
  | some v => some ⟨v, [], [], at_, 0⟩
  | none => none
def kRecG (E : Env) (ops : Array Oper) (at_ : Nat) (T : Tm) (S : St) (o : Oper) (want : Bool) : Option (Option Bool) → Option Rec
  | some b => if b = some want then recOf E ops at_ T S o else some ⟨.und, [], [], at_, needsMax E o.op⟩
  | none => none
section
variable (E : Env) (ops : Array Oper) (d : Option Tmp) (t : TypeId) (p : String) (a : Array Edge) (at_ : Nat) (T : Tm) (S : St)
theorem q_guard (op : Op) (j : Nat) (want : Bool) : recOf E ops at_ T S (Oper.mk d op t p a (some (j, want))) = kRecG E ops at_ T S (Oper.mk d op t p a none) want (guardOf ops T j) := by
  simp only [recOf]
  cases guardOf ops T j <;> rfl
theorem kRecG_some (o : Oper) (want b : Bool) : kRecG E ops at_ T S o want (some (some b)) = if b = want then recOf E ops at_ T S o else some ⟨.und, [], [], at_, needsMax E o.op⟩ := by
  simp only [kRecG, Option.some.injEq]
theorem kRecG_und (o : Oper) (want : Bool) : kRecG E ops at_ T S o want (some none) = some ⟨.und, [], [], at_, needsMax E o.op⟩ := rfl
theorem q_move (x : Operand) : recOf E ops at_ T S (Oper.mk d (.move x) t p a none) = recP at_ (ev T x) := by
  simp only [recOf, footR, evOp, needs, needsMax, Option.bind_some]
  cases ev T x <;> rfl
theorem q_assign (x : Operand) : recOf E ops at_ T S (Oper.mk d (.assign x) t p a none) = recP at_ (ev T x) := by
  simp only [recOf, footR, evOp, needs, needsMax, Option.bind_some]
  cases ev T x <;> rfl
theorem q_build (u : TypeId) (ps : Array (Nat × Operand)) : recOf E ops at_ T S (Oper.mk d (.build u ps) t p a none) = recP at_ (buildO E u (evParts T ps.toList)) := by
  simp only [recOf, footR, evOp, needs, needsMax, Option.bind_some]
  cases evParts T ps.toList with
  | none => rfl
  | some l => simp only [Option.bind_some, buildO]; cases buildV E u l <;> rfl
theorem q_buildSlice (u n : Nat) (ps : Array (Nat × Operand)) : recOf E ops at_ T S (Oper.mk d (.buildSlice u n ps) t p a none) = recC at_ (if E.rows then 1 else 0) (if E.rows then 1 else 0) [] (buildSliceO E at_ u n (evParts T ps.toList)) := by
  simp only [recOf, footR, evOp, needs, needsMax, Option.bind_some]
  cases evParts T ps.toList with
  | none => rfl
  | some l => simp only [Option.bind_some, buildSliceO]; cases buildSliceV E at_ u n l <;> rfl
theorem q_nilCheck (x : Operand) : recOf E ops at_ T S (Oper.mk d (.nilCheck x) t p a none) = recP at_ (nilO (ev T x)) := by
  simp only [recOf, footR, evOp, needs, needsMax, Option.bind_some]
  cases ev T x with
  | none => rfl
  | some v => simp only [Option.bind_some, nilO]; cases nilV v <;> rfl
theorem q_binOp (op : BinOp) (u : TypeId) (x y : Operand) (u2 : TypeId) : recOf E ops at_ T S (Oper.mk d (.binOp op u x y u2) t p a none) = recP at_ (binO E (isConst x || isConst y) op u (ev T x) (ev T y)) := by
  simp only [recOf, footR, evOp, needs, needsMax, Option.bind_some]
  cases ev T x with
  | none => cases ev T y <;> rfl
  | some v =>
    simp only [Option.bind_some]
    cases ev T y with
    | none => rfl
    | some z => simp only [Option.bind_some, binO]; cases binV E (isConst x || isConst y) op u v z <;> rfl
theorem q_unOp (op : UnOp) (u : TypeId) (x : Operand) : recOf E ops at_ T S (Oper.mk d (.unOp op u x) t p a none) = recP at_ (unO op (ev T x)) := by
  simp only [recOf, footR, evOp, needs, needsMax, Option.bind_some]
  cases ev T x with
  | none => rfl
  | some v => simp only [Option.bind_some, unO]; cases unV op v <;> rfl
theorem q_makeInterface (u : TypeId) (x : Operand) : recOf E ops at_ T S (Oper.mk d (.makeInterface u x) t p a none) = recP at_ (ifcO (E.ty u)) := by
  simp only [recOf, footR, evOp, needs, needsMax, Option.bind_some]
  cases E.ty u with
  | none => rfl
  | some i => simp only [Option.bind_some, ifcO]; cases i.desc <;> rfl
theorem q_convert (s u : TypeId) (x : Operand) : recOf E ops at_ T S (Oper.mk d (.convert s u x) t p a none) = recL at_ (refsO (ev T x)) (convO E S s u (ev T x)) := by
  simp only [recOf, footR, evOp, needs, needsMax, Option.bind_some]
  cases ev T x with
  | none => rfl
  | some v => simp only [Option.bind_some, convO]; cases convV E S s u v <;> rfl
theorem q_makeFunc (f : Fn) (x y : Array Operand) : recOf E ops at_ T S (Oper.mk d (.makeFunc f x y) t p a none) = recP at_ (fnO f (evs T x.toList) (evs T y.toList)) := by
  simp only [recOf, footR, evOp, needs, needsMax, Option.bind_some]
  cases evs T x.toList with
  | none => cases evs T y.toList <;> rfl
  | some v => simp only [Option.bind_some]; cases evs T y.toList <;> rfl
theorem q_slice (u : TypeId) (x : Operand) (lo hi mx : Option Operand) : recOf E ops at_ T S (Oper.mk d (.slice u x lo hi mx) t p a none) = recC at_ 0 0 (refsO (ev T x)) (sliceO E u S (ev T x) (evO T lo) (evO T hi) (evO T mx)) := by
  simp only [recOf, footR, evOp, needs, needsMax, Option.bind_some]
  cases ev T x with
  | none => cases evO T lo <;> cases evO T hi <;> cases evO T mx <;> rfl
  | some v =>
    simp only [Option.bind_some]
    cases evO T lo with
    | none => cases evO T hi <;> cases evO T mx <;> rfl
    | some lo =>
      simp only [Option.bind_some]
      cases evO T hi with
      | none => cases evO T mx <;> rfl
      | some hi =>
        simp only [Option.bind_some]
        cases evO T mx with
        | none => rfl
        | some mx => simp only [Option.bind_some, sliceO]; cases sliceV E u S v lo hi mx <;> rfl
theorem q_fieldAddr (u : TypeId) (x : Operand) (f : Nat) : recOf E ops at_ T S (Oper.mk d (.fieldAddr u x f) t p a none) = recP at_ (fldAO E u f (ev T x)) := by
  simp only [recOf, footR, evOp, needs, needsMax, Option.bind_some]
  cases ev T x with
  | none => rfl
  | some v => simp only [Option.bind_some, fldAO]; cases fldA E u f v <;> rfl
theorem q_field (u : TypeId) (x : Operand) (f : Nat) : recOf E ops at_ T S (Oper.mk d (.field u x f) t p a none) = recP at_ (fldO E u f (ev T x)) := by
  simp only [recOf, footR, evOp, needs, needsMax, Option.bind_some]
  cases ev T x with
  | none => rfl
  | some v => simp only [Option.bind_some, fldO]; cases fldV E u f v <;> rfl
theorem q_indexAddr (u : TypeId) (x i : Operand) : recOf E ops at_ T S (Oper.mk d (.indexAddr u x i) t p a none) = recL at_ (refsO (ev T x)) (idxAO E u S (ev T x) (intO (ev T i))) := by
  simp only [recOf, footR, evOp, needs, needsMax, Option.bind_some]
  cases ev T x with
  | none => cases intO (ev T i) <;> rfl
  | some v =>
    simp only [Option.bind_some]
    cases ev T i with
    | none => rfl
    | some i =>
      simp only [Option.bind_some, intO]
      cases intOf i with
      | none => rfl
      | some k => simp only [Option.bind_some, Option.map_some, idxAO]; cases idxA E u S v k.2 <;> rfl
theorem q_index (u : TypeId) (x i : Operand) : recOf E ops at_ T S (Oper.mk d (.index u x i) t p a none) = recP at_ (idxO E u (ev T x) (ev T i)) := by
  simp only [recOf, footR, evOp, needs, needsMax, Option.bind_some]
  cases ev T x with
  | none => cases ev T i <;> rfl
  | some v =>
    simp only [Option.bind_some]
    cases ev T i with
    | none => rfl
    | some i => simp only [Option.bind_some, idxO]; cases indexV E u v i <;> rfl
theorem q_extract (x : Operand) (n : Nat) : recOf E ops at_ T S (Oper.mk d (.extract x n) t p a none) = recP at_ (extractO n (ev T x)) := by
  simp only [recOf, footR, evOp, needs, needsMax, Option.bind_some]
  cases ev T x with
  | none => rfl
  | some v => simp only [Option.bind_some, extractO]; cases extractV n v <;> rfl
def pickO : Option Bool → Option V → Option V → Option V
  | some b, x, y => if b then x else y
  | none, _, _ => none
theorem pickO_true (x y : Option V) : pickO (some true) x y = x := rfl
theorem pickO_false (x y : Option V) : pickO (some false) x y = y := rfl
theorem pickO_some (b : Bool) (x y : Option V) : pickO (some b) x y = if b then x else y := rfl
theorem q_pick (c x y : Operand) : recOf E ops at_ T S (Oper.mk d (.pick c x y) t p a none) = recP at_ (pickO (boolO (ev T c)) (ev T x) (ev T y)) := by
  simp only [recOf, footR, evOp, needs, needsMax, Option.bind_some]
  cases ev T c with
  | none => rfl
  | some c =>
    simp only [Option.bind_some, boolO]
    cases boolOf c with
    | none => rfl
    | some b =>
      cases b
      · simp only [Option.bind_some, Bool.false_eq_true, if_false, pickO]
        cases ev T y <;> rfl
      · simp only [Option.bind_some, if_true, pickO]
        cases ev T x <;> rfl
def recA (at_ : Nat) : Option TI → Option Rec
  | some i => some ⟨.ptr at_ 0, [(at_, .box (i.zero))], [], at_, 1⟩
  | none => none
theorem recA_some (i : TI) : recA at_ (some i) = some ⟨.ptr at_ 0, [(at_, .box (i.zero))], [], at_, 1⟩ := rfl
theorem q_alloc (u : TypeId) : recOf E ops at_ T S (Oper.mk d (.alloc u) t p a none) = recA at_ (E.ty u) := by
  simp only [recOf, footR, evOp, needs, needsMax, Option.bind_some]
  cases E.ty u <;> rfl
def recB (at_ : Nat) : Option V → Option Rec
  | some v => if v.boxable then some ⟨.ptr at_ 0, [(at_, .box v.cells)], [], at_, 1⟩ else none
  | none => none
theorem recB_some (v : V) : recB at_ (some v) = if v.boxable then some ⟨.ptr at_ 0, [(at_, .box v.cells)], [], at_, 1⟩ else none := rfl
theorem q_box (u : TypeId) (x : Operand) : recOf E ops at_ T S (Oper.mk d (.box u x) t p a none) = recB at_ (ev T x) := by
  simp only [recOf, footR, evOp, needs, needsMax, Option.bind_some]
  cases ev T x with
  | none => rfl
  | some v =>
    simp only [Option.bind_some, recB]
    split <;> rfl
theorem recP_some (v : V) : recP at_ (some v) = some ⟨v, [], [], at_, 0⟩ := rfl
theorem recP_none : recP at_ none = none := rfl
theorem recP_ite (c : Prop) [Decidable c] (x y : Option V) : recP at_ (if c then x else y) = if c then recP at_ x else recP at_ y := by split <;> rfl
theorem q_load (u : TypeId) (x : Operand) : recOf E ops at_ T S (Oper.mk d (.load u x) t p a none) = recL at_ (refsO (ev T x)) (ldO E u S (ev T x)) := by
  simp only [recOf, footR, evOp, needs, needsMax]
  cases ev T x with
  | none => rfl
  | some v => simp only [Option.map_some, Option.bind_some, ldO, refsO]; cases ldV E u S v <;> rfl
theorem recL_some (rd : List Nat) (v : V) : recL at_ rd (some v) = some ⟨v, [], rd, at_, 0⟩ := rfl
theorem recL_none (rd : List Nat) : recL at_ rd none = none := rfl
theorem recL_ite (rd : List Nat) (c : Prop) [Decidable c] (x y : Option V) : recL at_ rd (if c then x else y) = if c then recL at_ rd x else recL at_ rd y := by split <;> rfl
def recS (at_ : Nat) (rd : List Nat) : Option (Nat × AObj) → Option Rec
  | some q => some ⟨.any, [q], rd, at_, 0⟩
  | none => none
theorem q_store (u : TypeId) (x y : Operand) : recOf E ops at_ T S (Oper.mk d (.store u x y) t p a none) = recS at_ (refsO (ev T x)) (stO E u S (ev T x) (ev T y)) := by
  simp only [recOf, footR, evOp, needs, needsMax]
  cases ev T x with
  | none => cases ev T y <;> rfl
  | some v =>
    simp only [Option.map_some, Option.bind_some]
    cases ev T y with
    | none => rfl
    | some y => simp only [Option.bind_some, stO, refsO]; cases stV E u S v y <;> rfl
theorem recS_some (rd : List Nat) (q : Nat × AObj) : recS at_ rd (some q) = some ⟨.any, [q], rd, at_, 0⟩ := rfl
theorem recS_none (rd : List Nat) : recS at_ rd none = none := rfl
def footO : Option (List Nat) → Option Rec → Option Rec
  | some _, r => r
  | none, _ => none
def listO : Option (List Nat) → List Nat
  | some l => l
  | none => []
theorem q_call (c : Call) : recOf E ops at_ T S (Oper.mk d (.call c) t p a none) = footO (footR E S T (.call c)) (recC at_ (needs E T (.call c)) (needsMax E (.call c)) (listO (footR E S T (.call c))) (evCall E at_ T S c)) := by
  simp only [recOf, evOp]
  cases footR E S T (.call c) with
  | none => rfl
  | some rd =>
    simp only [Option.bind_some, footO, listO]
    cases evCall E at_ T S c with
    | none => rfl
    | some r => rfl
theorem footO_some (l : List Nat) (r : Option Rec) : footO (some l) r = r := rfl
theorem listO_some (l : List Nat) : listO (some l) = l := rfl
theorem recC_some (n m : Nat) (rd : List Nat) (r : V × List (Nat × AObj)) : recC at_ n m rd (some r) = if n ≤ m then some ⟨r.1, r.2, rd, at_, m⟩ else none := rfl
theorem recC_none (n m : Nat) (rd : List Nat) : recC at_ n m rd none = none := rfl
theorem recC_ite (n m : Nat) (rd : List Nat) (c : Prop) [Decidable c] (x y : Option (V × List (Nat × AObj))) : recC at_ n m rd (if c then x else y) = if c then recC at_ n m rd x else recC at_ n m rd y := by split <;> rfl
theorem footO_ite (l : List Nat) (c : Prop) [Decidable c] (x y : Option Rec) : footO (some l) (if c then x else y) = if c then x else y := rfl
end

/-! ### on values -/
theorem binO_some (E : Env) (c : Bool) (op : BinOp) (t : Nat) (x y : V) : binO E c op t (some x) (some y) = (binV E c op t x y).map .d := rfl
theorem unO_some (op : UnOp) (x : V) : unO op (some x) = (unV op x).map .d := rfl
theorem convO_some (E : Env) (S : St) (s d : Nat) (x : V) : convO E S s d (some x) = convV E S s d x := rfl
theorem nilO_some (x : V) : nilO (some x) = nilV x := rfl
theorem sliceO_some (E : Env) (t : Nat) (S : St) (x : V) (lo hi mx : Option V) : sliceO E t S (some x) (some lo) (some hi) (some mx) = sliceV E t S x lo hi mx := rfl
theorem fldAO_some (E : Env) (t f : Nat) (x : V) : fldAO E t f (some x) = fldA E t f x := rfl
theorem fldO_some (E : Env) (t f : Nat) (x : V) : fldO E t f (some x) = fldV E t f x := rfl
theorem intO_int (k : IntKind) (n : Int) : intO (some (.d (.int k n))) = some n := rfl
theorem idxAO_some (E : Env) (t : Nat) (S : St) (x : V) (k : Int) : idxAO E t S (some x) (some k) = idxA E t S x k := rfl
theorem idxO_some (E : Env) (t : Nat) (x k : V) : idxO E t (some x) (some k) = indexV E t x k := rfl
theorem ldO_some (E : Env) (t : Nat) (S : St) (x : V) : ldO E t S (some x) = ldV E t S x := rfl
theorem stO_some (E : Env) (t : Nat) (S : St) (x y : V) : stO E t S (some x) (some y) = stV E t S x y := rfl
theorem extractO_some (n : Nat) (x : V) : extractO n (some x) = extractV n x := rfl
theorem buildO_some (E : Env) (t : Nat) (l : List (Nat × V)) : buildO E t (some l) = buildV E t l := rfl
theorem buildSliceO_some (E : Env) (at_ t n : Nat) (l : List (Nat × V)) : buildSliceO E at_ t n (some l) = buildSliceV E at_ t n l := rfl
theorem fnO_some (f : Fn) (a c : List V) : fnO f (some a) (some c) = some (fnV f a c) := rfl
theorem consO_some {α : Type} (x : α) (l : List α) : consO (some x) (some l) = some (x :: l) := rfl
theorem pairO_some (i : Nat) (x : V) : pairO i (some x) = some (i, x) := rfl
theorem boolO_bool (b : Bool) : boolO (some (.d (.bool b))) = some b := rfl
theorem refsO_some (v : V) : refsO (some v) = v.refs := rfl

/-! ### calls -/
def noW : Option V → Option (V × List (Nat × AObj))
  | some v => some (v, [])
  | none => none
theorem noW_some (v : V) : noW (some v) = some (v, []) := rfl
theorem noW_none : noW none = none := rfl
def lenO (S : St) (d : TD) : Option (List V) → Option V
  | some [x] => (lenOf S d x).map fun (n : Nat) => V.d (D.int .i64 (n : Int))
  | _ => none
def tiO (S : St) (l : Option (List V)) : Option TI → Option (V × List (Nat × AObj))
  | some i => noW (lenO S i.desc l)
  | none => none
def appO (E : Env) (at_ : Nat) (S : St) (t : Nat) : Option (List V) → Option (V × List (Nat × AObj))
  | some [x, y] => appendV E at_ t S x y
  | _ => none
def maxO (up : Bool) : Option (List V) → Option V
  | some l => maxV up l
  | none => none
def valO (E : Env) (at_ : Nat) (S : St) : Option V → Option (List V) → Option (V × List (Nat × AObj))
  | some (.d (.fn (.func g))), some args => callFn E at_ S g args
  | some (.fn (.func g) first cap), some args => callFn E at_ S g (first ++ args ++ cap)
  | _, _ => none
theorem valO_func (E : Env) (at_ : Nat) (S : St) (g : Nat) (args : List V) : valO E at_ S (some (.d (.fn (.func g)))) (some args) = callFn E at_ S g args := rfl
theorem valO_fn (E : Env) (at_ : Nat) (S : St) (g : Nat) (first cap args : List V) : valO E at_ S (some (.fn (.func g) first cap)) (some args) = callFn E at_ S g (first ++ args ++ cap) := rfl
theorem call_value (E : Env) (at_ : Nat) (T : Tm) (S : St) (f : Operand) (args : Array Operand) (ts : Array TypeId) : evCall E at_ T S ⟨.value f, args, ts⟩ = valO E at_ S (ev T f) (evs T args.toList) := by
  unfold evCall
  simp only
  cases evs T args.toList with
  | none => cases ev T f with
    | none => rfl
    | some v => unfold valO; split <;> simp_all
  | some l =>
    simp only [Option.bind_some]
    cases ev T f with
    | none => rfl
    | some v =>
      simp only [Option.bind_some]
      unfold valO
      split <;> simp_all
theorem call_len (E : Env) (at_ : Nat) (T : Tm) (S : St) (args : Array Operand) (t : TypeId) : evCall E at_ T S ⟨.builtin .len, args, #[t]⟩ = tiO S (evs T args.toList) (E.ty t) := by
  unfold evCall
  simp only
  cases evs T args.toList with
  | none => cases E.ty t <;> rfl
  | some l =>
    simp only [Option.bind_some]
    match l with
    | [] => cases E.ty t <;> rfl
    | [x] =>
      cases E.ty t with
      | none => rfl
      | some i => simp only [Option.bind_some, tiO, lenO]; cases lenOf S i.desc x <;> rfl
    | x :: y :: r => cases E.ty t <;> rfl
theorem call_append (E : Env) (at_ : Nat) (T : Tm) (S : St) (args : Array Operand) (t t' : TypeId) : evCall E at_ T S ⟨.builtin .append, args, #[t, t']⟩ = if t' = t then appO E at_ S t (evs T args.toList) else none := by
  unfold evCall
  simp only
  cases evs T args.toList with
  | none => simp only [appO, ite_self, Option.bind_none]
  | some l =>
    simp only [Option.bind_some]
    match l with
    | [] => simp only [appO, ite_self]
    | [x] => simp only [appO, ite_self]
    | [x, y] => rfl
    | x :: y :: z :: r => simp only [appO, ite_self]
def clrO (E : Env) (S : St) (t : Nat) : Option (List V) → Option (Nat × Nat × Nat) → Option (V × List (Nat × AObj))
  | some [x], some _ => (clearV E t S x).map fun W => (V.tup [], W)
  | _, _ => none
theorem call_clear (E : Env) (at_ : Nat) (T : Tm) (S : St) (args : Array Operand) (t : TypeId) : evCall E at_ T S ⟨.builtin .clear, args, #[t]⟩ = clrO E S t (evs T args.toList) (E.elem t) := by
  unfold evCall
  simp only
  cases evs T args.toList with
  | none => cases E.elem t <;> rfl
  | some l =>
    simp only [Option.bind_some]
    match l with
    | [] => cases E.elem t <;> rfl
    | [x] => cases E.elem t <;> rfl
    | x :: y :: r => cases E.elem t <;> rfl
theorem clrO_some (E : Env) (S : St) (t : Nat) (x : V) (e : Nat × Nat × Nat) : clrO E S t (some [x]) (some e) = (clearV E t S x).map fun W => (V.tup [], W) := rfl
theorem call_max (E : Env) (at_ : Nat) (T : Tm) (S : St) (args : Array Operand) (ts : Array TypeId) : evCall E at_ T S ⟨.builtin .max, args, ts⟩ = noW (maxO true (evs T args.toList)) := by
  unfold evCall
  simp only
  cases evs T args.toList with
  | none => rfl
  | some l => simp only [Option.bind_some, maxO]; cases maxV true l <;> rfl
theorem call_min (E : Env) (at_ : Nat) (T : Tm) (S : St) (args : Array Operand) (ts : Array TypeId) : evCall E at_ T S ⟨.builtin .min, args, ts⟩ = noW (maxO false (evs T args.toList)) := by
  unfold evCall
  simp only
  cases evs T args.toList with
  | none => rfl
  | some l => simp only [Option.bind_some, maxO]; cases maxV false l <;> rfl
theorem tiO_some (S : St) (l : Option (List V)) (i : TI) : tiO S l (some i) = noW (lenO S i.desc l) := rfl
theorem lenO_one (S : St) (d : TD) (x : V) : lenO S d (some [x]) = (lenOf S d x).map fun (n : Nat) => V.d (D.int .i64 (n : Int)) := rfl
theorem appO_two (E : Env) (at_ : Nat) (S : St) (t : Nat) (x y : V) : appO E at_ S t (some [x, y]) = appendV E at_ t S x y := rfl
theorem maxO_some (up : Bool) (l : List V) : maxO up (some l) = maxV up l := rfl
/-- what a call of a function comes to in the caller's state -/
def kRet (ids : List Nat) (at_ news : Nat) : Option (V × St) → Option (V × List (Nat × AObj))
  | some r => if r.2.length ≤ ids.length + news then (if (r.2.drop ids.length).all AObj.live then some (r.1.ren (back ids at_), callW (back ids at_) r.2 0) else none) else none
  | none => none
theorem kRet_some (ids : List Nat) (at_ news : Nat) (r : V × St) : kRet ids at_ news (some r) =
    if r.2.length ≤ ids.length + news then (if (r.2.drop ids.length).all AObj.live then some (r.1.ren (back ids at_), callW (back ids at_) r.2 0) else none) else none := rfl
theorem kRet_none (ids : List Nat) (at_ news : Nat) : kRet ids at_ news none = none := rfl
theorem kRet_ite (ids : List Nat) (at_ news : Nat) (c : Prop) [Decidable c] (x y : Option (V × St)) : kRet ids at_ news (if c then x else y) = if c then kRet ids at_ news x else kRet ids at_ news y := by split <;> rfl
theorem callFn0_data (E : Env) (at_ : Nat) (S : St) (g : Nat) (args : List V) (h : V.refsL args = []) :
    callFn0 E at_ S g args = (V.unrenL (posOf []) args).bind fun args => kRet [] at_ (E.news g) (E.call g args []) := by
  unfold callFn0
  rw [h]
  simp only [closure, nodupB, List.all_nil, if_true, focus, Option.bind_some, List.length_nil, Nat.zero_add, List.drop_zero]
  congr 1
  funext args
  cases E.call g args [] with
  | none => rfl
  | some r => simp [kRet]
theorem ite_bind' {α β : Type} (c : Prop) [Decidable c] (x y : Option α) (f : α → Option β) : (if c then x else y).bind f = if c then x.bind f else y.bind f := by
  split <;> rfl
theorem ite_map' {α β : Type} (c : Prop) [Decidable c] (x y : Option α) (f : α → β) : (if c then x else y).map f = if c then x.map f else y.map f := by
  split <;> rfl
end
end Go.Wm
