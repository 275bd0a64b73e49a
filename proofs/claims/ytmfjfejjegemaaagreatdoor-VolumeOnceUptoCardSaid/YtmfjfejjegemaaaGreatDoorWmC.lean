/-
  A part of the proof: an abstract run of the program, shown to be what the model does, and what it comes to.
-/
import Derived.Test.YtmfjfejjegemaaaGreatDoorWmB
set_option linter.unusedVariables false
set_option linter.unusedSimpArgs false
set_option linter.unnecessarySimpa false
set_option linter.defProp false
set_option linter.unusedSectionVars false
namespace Go.Wm

inductive TD where
  | bool | int (k : IntKind) | str | sl (e s by_ : Nat) | st (fields : List (Nat × Nat × Nat)) | arr (n e s : Nat) | ptr (e : Nat) | map (k e : Nat) | func | ifc
deriving DecidableEq
structure TI where
  desc : TD
  size : Nat
  bytes : Nat
  zero : List V
  plain : Bool

/-- is the value that data? (values without memory) -/
def D.isVal : D → Value → Bool
  | .bool b, v => (match v with | .bool b' => b == b' | _ => false)
  | .int k n, v => (match v with | .int k' n' => k == k' && n == n' | _ => false)
  | .str s, v => (match v with | .string s' => s'.data.toList == s | _ => false)
  | .nilp, v => (match v with | .pointer none => true | _ => false)
  | .nilf, v => (match v with | .nilFunc => true | _ => false)
  | .nili, v => (match v with | .nilIface => true | _ => false)
  | .nilm, v => (match v with | .map none => true | _ => false)
  | _, _ => false
def V.isVal : V → Value → Bool
  | .nil, v => (match v with | .slice none 0 0 => true | _ => false)
  | .d x, v => x.isVal v
  | _, _ => false
def areVals : List V → List Value → Bool
  | [], [] => true
  | x :: xs, v :: vs => x.isVal v && areVals xs vs
  | _, _ => false

structure Env where
  ty : Nat → Option TI
  call : Nat → List V → St → Option (V × St)
  news : Nat → Nat
  mode : Nat → Nat
  rows : Bool
  keep : Nat → Option (List Nat)
  loops : Nat → Option (List Nat × List (Nat × Nat × Nat))
  boxes : Nat → List (Nat × Nat × Nat × Nat)

abbrev Tm := List (Nat × V)
def Tm.get : Tm → Nat → V
  | [], _ => .any
  | (i, v) :: r, j => if i = j then v else Tm.get r j
def Tm.put (T : Tm) (d : Option Nat) (v : V) : Tm :=
  match d with
  | none => T
  | some i => (i, v) :: T

def ofValue : Value → Option V
  | .bool b => some (.d (.bool b))
  | .int k n => some (.d (.int k n))
  | .string s => some (.d (.str s.data.toList))
  | .slice none 0 0 => some .nil
  | .pointer none => some (.d .nilp)
  | .nilFunc => some (.d .nilf)
  | .nilIface => some (.d .nili)
  | .map none => some (.d .nilm)
  | _ => none
def ev (T : Tm) : Operand → Option V
  | .tmp t => some (T.get t)
  | .const v => ofValue v
  | .global _ => none
  | .func f => some (.d (.fn (.func f)))
def evs (T : Tm) : List Operand → Option (List V)
  | [] => some []
  | x :: r => (ev T x).bind fun v => (evs T r).map fun vs => v :: vs

def V.isAny : V → Bool
  | .any => true
  | _ => false

def TD.isAgg : TD → Bool
  | .st _ | .arr _ _ _ => true
  | _ => false
def Env.fields (E : Env) (t : Nat) : Option (List (Nat × Nat × Nat)) :=
  (E.ty t).bind fun i => match i.desc with | .st fs => some fs | _ => none
def Env.arr (E : Env) (t : Nat) : Option (Nat × Nat) :=
  (E.ty t).bind fun i => match i.desc with | .arr n _ s => some (n, s) | _ => none
def Env.elem (E : Env) (t : Nat) : Option (Nat × Nat × Nat) :=
  (E.ty t).bind fun i => match i.desc with | .sl e s b => some (e, s, b) | _ => none

/-- may it lie in cells? -/
def V.boxable : V → Bool
  | .any | .und | .csl _ _ _ | .tup _ => false
  | _ => true

/-- cells as one value -/
def allD : List V → Option (List D)
  | [] => some []
  | .d x :: r => (allD r).map fun xs => x :: xs
  | _ :: _ => none
def mkAgg (cs : List V) : V :=
  match allD cs with
  | some xs => .d (.agg xs)
  | none => .agg cs
def pieceD (i : TI) (cs : List D) (off : Nat) : Option D :=
  if i.desc.isAgg then (if off + i.size ≤ cs.length then some (.agg ((cs.drop off).take i.size)) else none) else cs[off]?
def pieceV (i : TI) (cs : List V) (off : Nat) : Option V :=
  if i.desc.isAgg then (if off + i.size ≤ cs.length then some (mkAgg ((cs.drop off).take i.size)) else none) else cs[off]?

/-! what one may know of a value as data -/
mutual
def asD : V → Option D
  | .d x => some x
  | .nil => some (.sl [])
  | .emp => some (.sl [])
  | .own _ xs => some (.sl xs)
  | .fsl xs => some (.sl xs)
  | .agg cs => (asDs cs).map .agg
  | _ => none
def asDs : List V → Option (List D)
  | [] => some []
  | x :: r => (asD x).bind fun y => (asDs r).map fun ys => y :: ys
end

/-! one operation each -/
def intCmp (op : BinOp) (a b : Int) : Option D :=
  match op with
  | .eql => some (.bool (decide (a = b))) | .neq => some (.bool (!decide (a = b))) | .lss => some (.bool (decide (a < b))) | .leq => some (.bool (decide (a ≤ b)))
  | .gtr => some (.bool (decide (a > b))) | .geq => some (.bool (decide (a ≥ b))) | _ => none
def intOp (op : BinOp) (k : IntKind) (a b : Int) : Option D :=
  match op with
  | .add => some (.int k (k.wrap (a + b))) | .sub => some (.int k (k.wrap (a - b))) | .mul => some (.int k (k.wrap (a * b)))
  | .quo => if b = 0 then none else some (.int k (k.wrap (a.tdiv b)))
  | .rem => if b = 0 then none else some (.int k (a.tmod b))
  | op => intCmp op a b
def shiftOp (op : BinOp) (k : IntKind) (a b : Int) : Option D :=
  match op with
  | .shl => if b < 0 then none else some (.int k (k.wrap (a * 2 ^ (min b.toNat k.bits))))
  | .shr => if b < 0 then none else some (.int k (a.fdiv (2 ^ (min b.toNat k.bits))))
  | _ => none
def strOp (op : BinOp) (a b : List UInt8) : Option D :=
  match op with
  | .eql => some (.bool (a == b)) | .neq => some (.bool (!(a == b)))
  | .lss => some (.bool (Op.bytesLess a b)) | .leq => some (.bool (Op.bytesLess a b || a == b))
  | .gtr => some (.bool (!(Op.bytesLess a b || a == b))) | .geq => some (.bool (!Op.bytesLess a b))
  | .add => if a.length + b.length ≤ 9223372036854775807 then some (.str (a ++ b)) else none
  | _ => none
def eqOp (op : BinOp) (b : Bool) : Option D :=
  match op with
  | .eql => some (.bool b)
  | .neq => some (.bool (!b))
  | _ => none
/-- two structs, field by field -/
def eqS : D → D → Option Bool
  | .bool a, .bool b => some (a == b)
  | .int k a, .int k' b => if k = k' then some (a == b) else none
  | .str a, .str b => some (a == b)
  | _, _ => none
def TD.isScalar : TD → Bool
  | .bool | .int _ | .str => true
  | _ => false
def scalarOf (d : TD) : D → Bool
  | .bool _ => (match d with | .bool => true | _ => false)
  | .int _ _ => (match d with | .int _ => true | _ => false)
  | .str _ => (match d with | .str => true | _ => false)
  | _ => false
mutual
def eqT (E : Env) : Nat → Nat → D → D → Option Bool
  | 0, _, _, _ => none
  | n + 1, t, x, y => (E.ty t).bind fun i =>
    match i.desc with
    | .st fs => if i.plain then (match x, y with | .agg xs, .agg ys => eqFs E n fs xs ys | _, _ => none) else none
    | d => if scalarOf d x then eqS x y else none
def eqFs (E : Env) : Nat → List (Nat × Nat × Nat) → List D → List D → Option Bool
  | 0, _, _, _ => none
  | _ + 1, [], _, _ => some true
  | n + 1, r :: rs, xs, ys => (E.ty r.2.1).bind fun ti => (pieceD ti xs r.1).bind fun x => (pieceD ti ys r.1).bind fun y => (eqT E n r.2.1 x y).bind fun b => (eqFs E n rs xs ys).map fun c => b && c
end
/-- is it nil? -/
def nilOf (d : TD) : V → Option Bool
  | .nil => match d with | .sl _ _ _ => some true | _ => none
  | .emp => match d with | .sl _ _ _ => some false | _ => none
  | .d (.sl (_ :: _)) => match d with | .sl _ _ _ => some false | _ => none
  | .sl _ _ n => match d with | .sl _ _ _ => (if 0 < n then some false else none) | _ => none
  | .d .nilp => match d with | .ptr _ => some true | _ => none
  | .ptr _ _ | .cptr _ _ | .eptr _ _ _ => match d with | .ptr _ => some false | _ => none
  | .d .nilf => match d with | .func => some true | _ => none
  | .fn _ _ _ | .d (.fn _) => match d with | .func => some false | _ => none
  | .d .nilm => match d with | .map _ _ => some true | _ => none
  | .mp _ => match d with | .map _ _ => some false | _ => none
  | .d .nili => match d with | .ifc => some true | _ => none
  | .d .err => match d with | .ifc => some false | _ => none
  | _ => none
def nilFor (c : Bool) (d : TD) : V → Bool
  | .nil => match d with | .sl _ _ _ => true | _ => false
  | .d .nilp => match d with | .ptr _ => true | _ => false
  | .d .nilf => match d with | .func => true | _ => false
  | .d .nilm => match d with | .map _ _ => true | _ => false
  | .d .nili => match d with | .ifc => c | _ => false
  | _ => false
def isShift : BinOp → Bool
  | .shl | .shr => true
  | _ => false
def binV (E : Env) (c : Bool) (op : BinOp) (t : Nat) (x y : V) : Option D :=
  match x, y with
  | .d (.int k a), .d (.int k' b) => if isShift op then shiftOp op k a b else (if k = k' then intOp op k a b else none)
  | .d (.str a), .d (.str b) => strOp op a b
  | .d (.bool a), .d (.bool b) => (E.ty t).bind fun i => match i.desc with | .bool => eqOp op (a == b) | _ => none
  | x, y => (E.ty t).bind fun i => if nilFor c i.desc y then (nilOf i.desc x).bind (eqOp op) else
      (match i.desc with
       | .st _ => (asD x).bind fun a => (asD y).bind fun b => (eqT E 40 t a b).bind (eqOp op)
       | _ => none)
def boolOf : V → Option Bool
  | .d (.bool b) => some b
  | _ => none
def rowAt (S : St) (o : Nat) : Option (Nat × Nat × List D) := (S[o]?).bind AObj.rowOf
def sliceOf (S : St) : V → Option (List D)
  | .d (.sl xs) => some xs
  | .nil => some []
  | .emp => some []
  | .own _ xs => some xs
  | .fsl xs => some xs
  | .sl o lo n => (rowAt S o).map fun r => (r.2.2.drop lo).take n
  | _ => none
/-- how many: of a piece of a row it is told by the piece -/
def countOf : V → Option Nat
  | .d (.sl xs) => some xs.length
  | .nil => some 0
  | .emp => some 0
  | .own _ xs => some xs.length
  | .fsl xs => some xs.length
  | _ => none
def lenOf (S : St) (d : TD) (x : V) : Option Nat :=
  match d with
  | .str => (match x with | .d (.str s) => some s.length | _ => none)
  | .arr n _ _ => some n
  | .sl _ _ _ => (match x with | .sl o _ n => (rowAt S o).map fun _ => n | x => countOf x)
  | .map _ _ => (match x with
      | .d .nilm => some 0
      | .mp o => (match S[o]? with | some (.map kvs) => some kvs.length | _ => none)
      | _ => none)
  | _ => none

def idxD (xs : List D) (i : Int) : Option D := if 0 ≤ i then xs[i.toNat]? else none
def idxA (E : Env) (t : Nat) (S : St) (x : V) (i : Int) : Option V :=
  match x with
  | .ptr o off => (E.arr t).bind fun r => if 2 ≤ r.1 then (if 0 ≤ i then (if i < r.1 then some (.ptr o (off + i.toNat * r.2)) else none) else none) else none
  | .sl o lo n => (rowAt S o).bind fun r => (E.elem t).bind fun e => if e.2.1 = r.2.1 then (if 0 ≤ i then (if i < n then some (.eptr o (lo + i.toNat) 0) else none) else none) else none
  | _ => (sliceOf S x).bind fun xs => (E.elem t).bind fun e => (idxD xs i).bind fun y => if y.cells.length = e.2.1 then some (.cptr y 0) else none
def fldA (E : Env) (t : Nat) (f : Nat) (x : V) : Option V :=
  (E.fields t).bind fun fs => (fs[f]?).bind fun r => if r.2.2 = 0 then none else
    match x with
    | .cptr x off => some (.cptr x (off + r.1))
    | .ptr ob off => some (.ptr ob (off + r.1))
    | .eptr ob i off => some (.eptr ob i (off + r.1))
    | _ => none
def ldV (E : Env) (t : Nat) (S : St) (x : V) : Option V :=
  (E.ty t).bind fun i =>
    match x with
    | .cptr x off => (pieceD i x.cells off).map .d
    | .eptr o k off => (rowAt S o).bind fun r => (r.2.2[k]?).bind fun x => (pieceD i x.cells off).map .d
    | .ptr o off => match S[o]? with
      | some (.box cs) => pieceV i cs off
      | _ => none
    | _ => none
def putCells {α : Type} (cs : List α) (off : Nat) (vs : List α) : List α := cs.take off ++ vs ++ cs.drop (off + vs.length)
/-- an element, with some of its cells written -/
def D.put (x : D) (off : Nat) (ds : List D) : D :=
  match x with
  | .agg cs => .agg (putCells cs off ds)
  | x => ds.headD x
def stV (E : Env) (t : Nat) (S : St) (x y : V) : Option (Nat × AObj) :=
  (E.ty t).bind fun i =>
    match x with
    | .ptr o off => match S[o]? with
      | some (.box cs) => if y.cells.length = i.size then (if off + i.size ≤ cs.length then (if y.boxable then some (o, .box (putCells cs off y.cells)) else none) else none) else none
      | _ => none
    | .eptr o k off => match S[o]? with
      | some (.row e sz xs) => (asD y).bind fun d => (xs[k]?).bind fun x => if d.cells.length = i.size then (if off + i.size ≤ x.cells.length then (if 0 < i.size then some (o, .row e sz (xs.set k (x.put off d.cells))) else none) else none) else none
      | _ => none
    | _ => none
def nilV : V → Option V
  | .ptr o off => some (.ptr o off)
  | .cptr x off => some (.cptr x off)
  | .eptr o i off => some (.eptr o i off)
  | .fn (.func f) a c => some (.fn (.func f) a c)
  | .d (.fn (.func f)) => some (.d (.fn (.func f)))
  | _ => none
def intOf : V → Option (IntKind × Int)
  | .d (.int k n) => some (k, n)
  | _ => none
def fldV (E : Env) (t : Nat) (f : Nat) (x : V) : Option V :=
  (E.fields t).bind fun fs => (fs[f]?).bind fun r => (E.ty r.2.1).bind fun ti =>
    match x with
    | .d (.agg cs) => (pieceD ti cs r.1).map .d
    | .agg cs => pieceV ti cs r.1
    | _ => none

def fillV (fs : List (Nat × Nat × Nat)) : List (Nat × V) → List V → Option (List V)
  | [], cs => some cs
  | (i, v) :: r, cs => (fs[i]?).bind fun p =>
      if v.boxable then (if v.cells.length = p.2.2 then (if p.1 + p.2.2 ≤ cs.length then fillV fs r (putCells cs p.1 v.cells) else none) else none) else none
/-- an array's places -/
def arrPlaces (n e s : Nat) : List (Nat × Nat × Nat) := (List.range n).map fun k => (k * s, e, s)
def buildV (E : Env) (t : Nat) (parts : List (Nat × V)) : Option V :=
  (E.ty t).bind fun i =>
    match i.desc with
    | .st fs => (fillV fs parts i.zero).map mkAgg
    | .arr n e s => (fillV (arrPlaces n e s) parts i.zero).map mkAgg
    | _ => none

def optInt : Option V → Option (Option Int)
  | none => some none
  | some x => (intOf x).map fun r => some r.2
/-- the bounds of 'x[lo:hi]' -/
def bounds (n : Nat) (lo hi : Option Int) : Option (Nat × Nat) :=
  if 0 ≤ lo.getD 0 then (if lo.getD 0 ≤ hi.getD n then (if hi.getD n ≤ n then some ((lo.getD 0).toNat, (hi.getD n).toNat) else none) else none) else none
def sliceStr (s : List UInt8) (lo hi mx : Option Int) : Option V :=
  match mx with
  | none => (bounds s.length lo hi).map fun r => .d (.str ((s.take r.2).drop r.1))
  | some _ => none
/-- 'x[lo:hi:mx]' -/
def sliceV (E : Env) (t : Nat) (S : St) (x : V) (lo hi mx : Option V) : Option (V × List (Nat × AObj)) :=
  (optInt lo).bind fun lo => (optInt hi).bind fun hi => (optInt mx).bind fun mx =>
    match x with
    | .d (.str s) => (E.ty t).bind fun i => match i.desc with | .str => (sliceStr s lo hi mx).map fun v => (v, []) | _ => none
    | .sl o l n => (rowAt S o).bind fun r => (E.elem t).bind fun e => if e.2.1 = r.2.1 then (bounds n lo hi).bind fun p =>
        (match mx with
         | none => some (.sl o (l + p.1) (p.2 - p.1), [])
         | some m => if hi = some m then some (.csl o (l + p.1) (p.2 - p.1), []) else none) else none
    | x => (sliceOf S x).bind fun xs => (E.elem t).bind fun e => if xs.all (fun x => x.cells.length == e.2.1) then (bounds xs.length lo hi).bind fun p =>
        (match mx with
         | none => some (.d (.sl ((xs.take p.2).drop p.1)), [])
         | some m => if hi = some m then some (.fsl ((xs.take p.2).drop p.1), []) else none) else none

/-- a literal of a slice -/
def buildSliceV (E : Env) (at_ : Nat) (t len : Nat) (parts : List (Nat × V)) : Option (V × List (Nat × AObj)) :=
  (E.elem t).bind fun e => (E.ty e.1).bind fun _ => (asDs (parts.map (·.2))).bind fun xs =>
    if parts.map (·.1) = List.range len then
      (if xs.all (fun x => x.cells.length == e.2.1) then (if 0 < e.2.1 then (if len * e.2.1 ≤ 16777216 then
        (if E.rows then some (.sl at_ 0 len, [(at_, .row e.1 e.2.1 xs)]) else some (.fsl xs, [])) else none) else none) else none)
    else none

/-- what is made anew: a row that may be written, or one that may be appended to -/
def newList (rows : Bool) (at_ e sz : Nat) (xs : List D) : V × List (Nat × AObj) :=
  if rows then (.sl at_ 0 xs.length, [(at_, .row e sz xs)]) else (.own at_ xs, [(at_, .tok e xs.length sz)])
/-- append -/
def appendV (E : Env) (at_ : Nat) (t : Nat) (S : St) (x y : V) : Option (V × List (Nat × AObj)) :=
  (E.elem t).bind fun e => (E.ty e.1).bind fun _ => (sliceOf S y).bind fun ys =>
    if e.2.2 ≤ 65536 then (if ys.all (fun y => y.cells.length == e.2.1) then
      match x with
      | .own o xs =>
            (match S[o]? with
             | some (.tok e' f sz') => if e' = e.1 then (if f = xs.length then (if sz' = e.2.1 then (if xs.length + ys.length ≤ 2147483648 then
                 some (.own o (xs ++ ys), [(o, .tok e.1 (xs.length + ys.length) e.2.1)]) else none) else none) else none) else none
             | _ => none)
      | .nil => if ys.length ≤ 2147483648 then some (newList E.rows at_ e.1 e.2.1 ys) else none
      | .csl o lo n => if ys.isEmpty then none else (rowAt S o).bind fun r => if r.2.1 = e.2.1 then (if ((r.2.2.drop lo).take n).all (fun y => y.cells.length == e.2.1) then (if ((r.2.2.drop lo).take n).length + ys.length ≤ 2147483648 then some (newList E.rows at_ e.1 e.2.1 ((r.2.2.drop lo).take n ++ ys)) else none) else none) else none
      | .fsl xs => if (E.rows && ys.isEmpty) = false then (if xs.all (fun y => y.cells.length == e.2.1) then (if xs.length + ys.length ≤ 2147483648 then some (newList E.rows at_ e.1 e.2.1 (xs ++ ys)) else none) else none) else none
      | .sl o lo n =>
            (match S[o]? with
             | some (.row e' sz' xs) => if e' = e.1 then (if sz' = e.2.1 then (if lo = 0 then (if n = xs.length then (if xs.length + ys.length ≤ 2147483648 then
                 some (.sl at_ 0 (xs.length + ys.length), [(o, .gone), (at_, .row e.1 e.2.1 (xs ++ ys))]) else none) else none) else none) else none) else none
             | _ => none)
      | _ => none
    else none) else none

/-- the zero of a kind, as data -/
def zeroD (i : TI) : Option D := if i.desc.isAgg then (asDs i.zero).map .agg else (i.zero.head?).bind asD
def zeroV (i : TI) : Option V := if i.desc.isAgg then some (mkAgg i.zero) else i.zero.head?
/-- 'make([]T, n)' -/
def makeSliceV (E : Env) (at_ : Nat) (t : Nat) (n c : V) : Option (V × Nat × AObj) :=
  (E.elem t).bind fun e => (E.ty e.1).bind fun i => (intOf n).bind fun n => (intOf c).bind fun c => (zeroD i).bind fun z =>
    if e.2.2 ≤ 65536 then (if 0 < e.2.1 then (if 0 ≤ n.2 then (if n.2 = c.2 then (if n.2 ≤ 2147483648 then some (.sl at_ 0 n.2.toNat, at_, .row e.1 e.2.1 (List.replicate n.2.toNat z)) else none) else none) else none) else none) else none
/-- 'clear(x)' of a piece of a row -/
def clearV (E : Env) (t : Nat) (S : St) (x : V) : Option (List (Nat × AObj)) :=
  match x with
  | .nil => some []
  | .sl o lo n => match S[o]? with
    | some (.row e sz xs) => (E.elem t).bind fun e' => if e'.1 = e ∧ e'.2.1 = sz then (E.ty e).bind fun i => (zeroD i).bind fun z => some [(o, .row e sz (putCells xs lo (List.replicate n z)))] else none
    | _ => none
  | _ => none
end Go.Wm
