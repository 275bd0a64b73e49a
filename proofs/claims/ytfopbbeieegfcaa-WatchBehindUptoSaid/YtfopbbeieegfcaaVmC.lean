/-
  A part of the proof: an abstract run of the program, shown to be what the model does, and what it comes to.
-/
import Derived.Test.YtfopbbeieegfcaaVmB
set_option linter.unusedVariables false
set_option linter.unusedSimpArgs false
set_option linter.unusedSectionVars false
set_option linter.unnecessarySimpa false
namespace Go.Vm

inductive TD where
  | bool | int (k : IntKind) | str | sl (e s by_ : Nat) | st (fields : List (Nat × Nat × Nat)) | arr (n e s : Nat) | ptr (e : Nat) | map (k e : Nat) | func | ifc
deriving DecidableEq
structure TI where
  desc : TD
  size : Nat
  bytes : Nat
  zero : D


mutual
/-- is the value that data? (values without memory) -/
def D.isVal : D → Value → Bool
  | .bool b, v => (match v with | .bool b' => b == b' | _ => false)
  | .int k n, v => (match v with | .int k' n' => k == k' && n == n' | _ => false)
  | .str s, v => (match v with | .string s' => s.data == s'.data | _ => false)
  | .sl nn _ xs, v => nn && xs.isEmpty && (match v with | .slice none 0 0 => true | _ => false)
  | .agg cs, v => (match v with | .agg vs => D.areVals cs vs.toList | _ => false)
  | .nilp, v => (match v with | .pointer none => true | _ => false)
  | .nilf, v => (match v with | .nilFunc => true | _ => false)
  | .nili, v => (match v with | .nilIface => true | _ => false)
  | .nilm, v => (match v with | .map none => true | _ => false)
  | .fn f, v => (match v with | .func g first cap => f == g && first.isEmpty && cap.isEmpty | _ => false)
def D.areVals : List D → List Value → Bool
  | [], [] => true
  | x :: xs, v :: vs => x.one && x.isVal v && D.areVals xs vs
  | _, _ => false
end

structure Env where
  ty : Nat → Option TI
  call : Nat → List V → St → Option (V × St)
  news : Nat → Nat
  keep : Nat → Option (List Nat)
  loops : Nat → Option (List Nat × List (Nat × Nat × Nat))

abbrev Tm := List (Nat × V)
def Tm.get : Tm → Nat → V
  | [], _ => .any
  | (i, v) :: r, j => if i = j then v else Tm.get r j
def Tm.put (T : Tm) (d : Option Nat) (v : V) : Tm :=
  match d with
  | none => T
  | some i => (i, v) :: T

def ofValue : Value → Option D
  | .bool b => some (.bool b)
  | .int k n => some (.int k n)
  | .string s => some (.str s)
  | .slice none 0 0 => some (.sl true 0 [])
  | .pointer none => some .nilp
  | .nilFunc => some .nilf
  | .nilIface => some .nili
  | .map none => some .nilm
  | _ => none
def ev (T : Tm) : Operand → Option V
  | .tmp t => some (T.get t)
  | .const v => (ofValue v).map .d
  | .global _ => none
  | .func f => some (.d (.fn (.func f)))
def evs (T : Tm) : List Operand → Option (List V)
  | [] => some []
  | x :: r => (ev T x).bind fun v => (evs T r).map fun vs => v :: vs

def V.isAny : V → Bool
  | .any => true
  | _ => false

def TD.isAgg : TD → Bool
  | .st _ | .arr _ _ _ => true
  | _ => false
def Env.fields (E : Env) (t : Nat) : Option (List (Nat × Nat × Nat)) :=
  (E.ty t).bind fun i => match i.desc with | .st fs => some fs | _ => none
def Env.arr (E : Env) (t : Nat) : Option (Nat × Nat) :=
  (E.ty t).bind fun i => match i.desc with | .arr n _ s => some (n, s) | _ => none
def Env.elem (E : Env) (t : Nat) : Option (Nat × Nat × Nat) :=
  (E.ty t).bind fun i => match i.desc with | .sl e s b => some (e, s, b) | _ => none

/-- may it lie in cells? -/
def V.boxable : V → Bool
  | .any | .tup _ => false
  | _ => true

/-- cells as one value -/
def allD : List V → Option (List D)
  | [] => some []
  | .d x :: r => (allD r).map fun xs => x :: xs
  | _ :: _ => none
def mkAgg (cs : List V) : V :=
  match allD cs with
  | some xs => .d (.agg xs)
  | none => .agg cs
def pieceD (i : TI) (cs : List D) (off : Nat) : Option D :=
  if i.desc.isAgg then (if off + i.size ≤ cs.length then some (.agg ((cs.drop off).take i.size)) else none) else cs[off]?
def pieceV (i : TI) (cs : List V) (off : Nat) : Option V :=
  if i.desc.isAgg then (if off + i.size ≤ cs.length then some (mkAgg ((cs.drop off).take i.size)) else none) else cs[off]?

/-! one operation each -/
def intCmp (op : BinOp) (a b : Int) : Option D :=
  match op with
  | .eql => some (.bool (a == b)) | .neq => some (.bool (a != b)) | .lss => some (.bool (decide (a < b))) | .leq => some (.bool (decide (a ≤ b)))
  | .gtr => some (.bool (decide (a > b))) | .geq => some (.bool (decide (a ≥ b))) | _ => none
def intOp (op : BinOp) (k : IntKind) (a b : Int) : Option D :=
  match op with
  | .add => some (.int k (k.wrap (a + b))) | .sub => some (.int k (k.wrap (a - b))) | .mul => some (.int k (k.wrap (a * b)))
  | .quo => if b = 0 then none else some (.int k (k.wrap (a.tdiv b)))
  | .rem => if b = 0 then none else some (.int k (a.tmod b))
  | op => intCmp op a b
def strOp (op : BinOp) (a b : ByteArray) : Option D :=
  match op with
  | .eql => some (.bool (a.toList == b.toList)) | .neq => some (.bool (!(a.toList == b.toList)))
  | .lss => some (.bool (Op.bytesLess a.toList b.toList)) | .leq => some (.bool (Op.bytesLess a.toList b.toList || a.toList == b.toList))
  | .gtr => some (.bool (!(Op.bytesLess a.toList b.toList || a.toList == b.toList))) | .geq => some (.bool (!Op.bytesLess a.toList b.toList))
  | .add => if a.size + b.size ≤ 9223372036854775807 then some (.str (a ++ b)) else none
  | _ => none
def eqOp (op : BinOp) (b : Bool) : Option D :=
  match op with
  | .eql => some (.bool b)
  | .neq => some (.bool (!b))
  | _ => none
/-- is it nil? -/
def nilOf (d : TD) : V → Option Bool
  | .d (.sl nn _ _) | .fsl nn _ _ => match d with | .sl _ _ _ => some nn | _ => none
  | .own _ nn _ xs => match d with | .sl _ _ _ => some (nn && xs.isEmpty) | _ => none
  | .d .nilp => match d with | .ptr _ => some true | _ => none
  | .ptr _ _ | .cptr _ _ _ => match d with | .ptr _ => some false | _ => none
  | .d .nilf => match d with | .func => some true | _ => none
  | .fn _ _ _ | .d (.fn _) => match d with | .func => some false | _ => none
  | _ => none
def nilFor (d : TD) : V → Bool
  | .d (.sl true _ []) => match d with | .sl _ _ _ => true | _ => false
  | .d .nilp => match d with | .ptr _ => true | _ => false
  | .d .nilf => match d with | .func => true | _ => false
  | _ => false
def binV (E : Env) (op : BinOp) (t : Nat) (x y : V) : Option D :=
  match x, y with
  | .d (.int k a), .d (.int k' b) => if k = k' then intOp op k a b else none
  | .d (.str a), .d (.str b) => strOp op a b
  | .d (.bool a), .d (.bool b) => (E.ty t).bind fun i => match i.desc with | .bool => eqOp op (a == b) | _ => none
  | x, y => (E.ty t).bind fun i => if nilFor i.desc y then (nilOf i.desc x).bind (eqOp op) else none
def boolOf : V → Option Bool
  | .d (.bool b) => some b
  | _ => none
def sliceOf : V → Option (Bool × Nat × List D)
  | .d (.sl nn sz xs) => some (nn, sz, xs)
  | .fsl nn sz xs => some (nn, sz, xs)
  | .own _ nn sz xs => some (nn && xs.isEmpty, sz, xs)
  | _ => none
def lenOf (d : TD) (x : V) : Option Nat :=
  match d with
  | .str => (match x with | .d (.str s) => some s.size | _ => none)
  | .sl _ _ _ => (sliceOf x).map fun r => r.2.2.length
  | _ => none

def idxD (xs : List D) (i : Int) : Option D := if 0 ≤ i then xs[i.toNat]? else none
def idxA (E : Env) (t : Nat) (x : V) (i : Int) : Option V :=
  match x with
  | .ptr o off => (E.arr t).bind fun r => if 2 ≤ r.1 then (if 0 ≤ i then (if i < r.1 then some (.ptr o (off + i.toNat * r.2)) else none) else none) else none
  | x => (sliceOf x).bind fun r => (E.elem t).bind fun e => if e.2.1 = r.2.1 then (idxD r.2.2 i).map fun y => .cptr r.2.1 y 0 else none
def fldA (E : Env) (t : Nat) (f : Nat) (x : V) : Option V :=
  (E.fields t).bind fun fs => (fs[f]?).bind fun r => if r.2.2 = 0 then none else
    match x with
    | .cptr sz x off => some (.cptr sz x (off + r.1))
    | .ptr ob off => some (.ptr ob (off + r.1))
    | _ => none
def ldV (E : Env) (t : Nat) (S : St) (x : V) : Option V :=
  (E.ty t).bind fun i =>
    match x with
    | .cptr _ x off => (pieceD i x.cells off).map .d
    | .ptr o off => match S[o]? with
      | some (.box cs) => pieceV i cs off
      | _ => none
    | _ => none
def putCells (cs : List V) (off : Nat) (vs : List V) : List V := cs.take off ++ vs ++ cs.drop (off + vs.length)
def stV (E : Env) (t : Nat) (S : St) (x y : V) : Option (Nat × AObj) :=
  (E.ty t).bind fun i =>
    match x with
    | .ptr o off => match S[o]? with
      | some (.box cs) => if y.cells.length = i.size then (if off + i.size ≤ cs.length then (if y.boxable then some (o, .box (putCells cs off y.cells)) else none) else none) else none
      | _ => none
    | _ => none
def nilV : V → Option V
  | .ptr o off => some (.ptr o off)
  | .cptr s x off => some (.cptr s x off)
  | .fn (.func f) a c => some (.fn (.func f) a c)
  | .d (.fn (.func f)) => some (.d (.fn (.func f)))
  | _ => none
def intOf : V → Option (IntKind × Int)
  | .d (.int k n) => some (k, n)
  | _ => none
def fldV (E : Env) (t : Nat) (f : Nat) (x : V) : Option V :=
  (E.fields t).bind fun fs => (fs[f]?).bind fun r => (E.ty r.2.1).bind fun ti =>
    match x with
    | .d (.agg cs) => (pieceD ti cs r.1).map .d
    | .agg cs => pieceV ti cs r.1
    | _ => none

def fillV (fs : List (Nat × Nat × Nat)) : List (Nat × V) → List V → Option (List V)
  | [], cs => some cs
  | (i, v) :: r, cs => (fs[i]?).bind fun p =>
      if v.boxable then (if v.cells.length = p.2.2 then (if p.1 + p.2.2 ≤ cs.length then fillV fs r (putCells cs p.1 v.cells) else none) else none) else none
def buildV (E : Env) (t : Nat) (parts : List (Nat × V)) : Option V :=
  (E.ty t).bind fun i =>
    match i.desc with
    | .st fs => (fillV fs parts (i.zero.cells.map .d)).map mkAgg
    | _ => none

def asD : V → Option D
  | .d x => some x
  | .own _ nn sz xs => some (.sl (nn && xs.isEmpty) sz xs)
  | .fsl nn sz xs => some (.sl nn sz xs)
  | _ => none
def asDs : List V → Option (List D)
  | [] => some []
  | x :: r => (asD x).bind fun y => (asDs r).map fun ys => y :: ys


def optInt : Option V → Option (Option Int)
  | none => some none
  | some x => (intOf x).map fun r => some r.2
/-- 'x[lo:hi:mx]' of a slice -/
def sliceSl (e : Nat × Nat × Nat) (nn : Bool) (sz : Nat) (xs : List D) (lo hi mx : Option Int) : Option V :=
  if e.2.1 = sz then
    (if 0 ≤ lo.getD 0 then (if lo.getD 0 ≤ hi.getD xs.length then
      (match mx with
       | none => if hi.getD xs.length ≤ xs.length then some (.d (.sl nn sz ((xs.take (hi.getD xs.length).toNat).drop (lo.getD 0).toNat))) else none
       | some m => if hi = some m then (if m ≤ xs.length then some (.fsl nn sz ((xs.take m.toNat).drop (lo.getD 0).toNat)) else none) else none) else none) else none)
  else none
def sliceStr (s : ByteArray) (lo hi mx : Option Int) : Option V :=
  match mx with
  | none => if 0 ≤ lo.getD 0 then (if lo.getD 0 ≤ hi.getD s.size then (if hi.getD s.size ≤ s.size then some (.d (.str (s.extract (lo.getD 0).toNat (hi.getD s.size).toNat))) else none) else none) else none
  | some _ => none
def sliceV (E : Env) (t : Nat) (x : V) (lo hi mx : Option V) : Option V :=
  (optInt lo).bind fun lo => (optInt hi).bind fun hi => (optInt mx).bind fun mx =>
    match x with
    | .d (.str s) => (E.ty t).bind fun i => match i.desc with | .str => sliceStr s lo hi mx | _ => none
    | x => (sliceOf x).bind fun r => (E.elem t).bind fun e => sliceSl e r.1 r.2.1 r.2.2 lo hi mx

def buildSliceV (E : Env) (t len : Nat) (parts : List (Nat × V)) : Option V :=
  (E.elem t).bind fun e => (E.ty e.1).bind fun _ => (asDs (parts.map (·.2))).bind fun xs =>
    if parts.map (·.1) = List.range len then
      (if xs.all (fun x => x.cells.length == e.2.1) then (if 0 < e.2.1 then (if len * e.2.1 ≤ 16777216 then some (.fsl false e.2.1 xs) else none) else none) else none)
    else none

/-- append -/
def appendV (E : Env) (at_ : Nat) (t : Nat) (S : St) (x y : V) : Option (V × Nat × AObj) :=
  (E.elem t).bind fun e => (E.ty e.1).bind fun _ => (sliceOf y).bind fun r =>
    if e.2.2 ≤ 65536 then (if (r.2.1 == e.2.1 || r.2.2.isEmpty) then
      match x with
      | .own o nn sz xs => if sz = e.2.1 then
            (match S[o]? with
             | some (.tok e' f sz') => if e' = e.1 then (if f = xs.length then (if sz' = sz then (if xs.length + r.2.2.length ≤ 2147483648 then
                 some (.own o nn sz (xs ++ r.2.2), o, .tok e.1 (xs.length + r.2.2.length) sz) else none) else none) else none) else none
             | _ => none) else none
      | .fsl nn sz xs => if sz = e.2.1 then (if xs.length + r.2.2.length ≤ 2147483648 then some (.own at_ nn sz (xs ++ r.2.2), at_, .tok e.1 (xs.length + r.2.2.length) sz) else none) else none
      | .d (.sl true _ []) => if r.2.2.length ≤ 2147483648 then some (.own at_ true e.2.1 r.2.2, at_, .tok e.1 r.2.2.length e.2.1) else none
      | _ => none
    else none) else none

end Go.Vm
