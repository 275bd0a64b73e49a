/-
  A part of the proof: an abstract run of the program, shown to be what the model does, and what it comes to.
-/
import Derived.Test.YtmfjfejjegemaaaGreatDoorWmN
set_option linter.unusedVariables false
set_option linter.unusedSimpArgs false
set_option linter.unnecessarySimpa false
set_option linter.defProp false
set_option linter.unusedSectionVars false
namespace Go.Wm
open Go
variable [GlobReq]
noncomputable section

def evParts (T : Tm) : List (Nat × Operand) → Option (List (Nat × V))
  | [] => some []
  | (i, x) :: r => (ev T x).bind fun v => (evParts T r).map fun vs => (i, v) :: vs
def evO (T : Tm) : Option Operand → Option (Option V)
  | none => some none
  | some x => (ev T x).map some
def nodupB : List Nat → Bool
  | [] => true
  | i :: r => !(r.contains i) && nodupB r
/-- all that is reached from these -/
def closure (S : St) : Nat → List Nat → List Nat → List Nat
  | 0, _, acc => acc
  | _ + 1, [], acc => acc
  | n + 1, i :: r, acc => if acc.contains i then closure S n r acc else closure S n (((S[i]?).map AObj.refs).getD [] ++ r) (acc ++ [i])
def AObj.live : AObj → Bool
  | .dead => false
  | _ => true

/-! rows that are looked at -/
def isRowB : Option AObj → Bool
  | some (.row _ _ _) => true
  | _ => false
def frzW (S : St) : List Nat → List (Nat × AObj)
  | [] => []
  | o :: r => match S[o]? with
    | some (.row e sz xs) => (o, .fro e sz xs) :: frzW S r
    | _ => frzW S r
mutual
/-- a frozen row as data -/
def V.look (S : St) : V → V
  | .sl o lo n => (match S[o]? with
    | some (.fro _ _ xs) => .d (.sl ((xs.drop lo).take n))
    | _ => .sl o lo n)
  | .csl o lo n => .csl o lo n
  | .agg cs => mkAgg (V.lookL S cs)
  | .tup cs => .tup (V.lookL S cs)
  | .any => .any
  | .und => .und
  | .d x => .d x
  | .nil => .nil
  | .emp => .emp
  | .own t xs => .own t xs
  | .fsl xs => .fsl xs
  | .ptr o off => .ptr o off
  | .eptr o i off => .eptr o i off
  | .cptr x off => .cptr x off
  | .mp o => .mp o
  | .fn f a c => .fn f a c
def V.lookL (S : St) : List V → List V
  | [] => []
  | x :: r => V.look S x :: V.lookL S r
end
/-- a result that holds nothing of memory -/
def D.scal1 : D → Bool
  | .sl xs => xs.isEmpty
  | .agg _ => false
  | _ => true
def D.scal : D → Bool
  | .agg cs => cs.all D.scal1
  | x => x.scal1
def V.scal1 : V → Bool
  | .d x => x.scal
  | _ => false
def V.scal : V → Bool
  | .tup vs => vs.all V.scal1
  | x => x.scal1

def callFn0 (E : Env) (at_ : Nat) (S : St) (g : Nat) (args : List V) : Option (V × List (Nat × AObj)) :=
  let ids := closure S 200 (V.refsL args) []
  if nodupB ids then (if ids.all (· < at_) then
    (V.unrenL (posOf ids) args).bind fun args => (focus (posOf ids) S ids).bind fun T => (E.call g args T).bind fun r =>
      if r.2.length ≤ ids.length + E.news g then (if (r.2.drop ids.length).all AObj.live then some (r.1.ren (back ids at_), callW (back ids at_) r.2 0) else none) else none
    else none) else none
/-- nothing is changed -/
def unch (ids : List Nat) (S : St) : List (Nat × AObj) → Prop
  | [] => True
  | p :: r => (ids.contains p.1 = true ∧ S[p.1]? = some p.2) ∧ unch ids S r
theorem unch_nil (ids : List Nat) (S : St) : unch ids S [] ↔ True := Iff.rfl
theorem unch_cons (ids : List Nat) (S : St) (p : Nat × AObj) (r : List (Nat × AObj)) : unch ids S (p :: r) ↔ (ids.contains p.1 = true ∧ S[p.1]? = some p.2) ∧ unch ids S r := Iff.rfl
theorem unch_congr {ids : List Nat} {S S' : St} (h : ∀ o ∈ ids, S[o]? = S'[o]?) : ∀ (W : List (Nat × AObj)), unch ids S W ↔ unch ids S' W
  | [] => Iff.rfl
  | p :: r => by
    rw [unch_cons, unch_cons, unch_congr h r]
    constructor
    · rintro ⟨⟨h1, h2⟩, h3⟩
      exact ⟨⟨h1, by rw [← h p.1 (by simpa using h1)]; exact h2⟩, h3⟩
    · rintro ⟨⟨h1, h2⟩, h3⟩
      exact ⟨⟨h1, by rw [h p.1 (by simpa using h1)]; exact h2⟩, h3⟩
theorem applyW_unch {ids : List Nat} {S : St} : ∀ {W : List (Nat × AObj)}, unch ids S W → applyW S W = S
  | [], _ => rfl
  | p :: r, h => by
    obtain ⟨⟨_, h2⟩, h3⟩ := h
    have e : S.set p.1 p.2 = S := by
      obtain ⟨hi, he⟩ := List.getElem?_eq_some_iff.1 h2
      rw [← he, List.set_getElem_self]
    show applyW (S.set p.1 p.2) r = S
    rw [e]
    exact applyW_unch h3
open Classical in
/-- a call that only reads -/
noncomputable def kRo (ids : List Nat) (S : St) : Option (V × List (Nat × AObj)) → Option (V × List (Nat × AObj))
  | some r => if unch ids S r.2 then some (r.1, []) else none
  | none => none
/-- an argument is looked at alone: nothing is appended to it; its rows are lent (1), frozen (2) or handed over (0) -/
def callFn (E : Env) (at_ : Nat) (S : St) (g : Nat) (args : List V) : Option (V × List (Nat × AObj)) :=
  match E.mode g with
  | 0 => callFn0 E at_ S g (V.freezeL args)
  | 1 => if V.refsL (V.freezeL (V.lookL (applyW S (frzW S (V.refsL args))) args)) = [] then
      (E.call g (V.freezeL (V.lookL (applyW S (frzW S (V.refsL args))) args)) []).bind fun r => if r.2.isEmpty then (if r.1.scal then some (r.1, []) else none) else none
    else none
  | 3 => kRo (closure S 200 (V.refsL (V.freezeL args)) []) S (callFn0 E at_ S g (V.freezeL args))
  | _ => (callFn0 E at_ (applyW S (frzW S (V.refsL args))) g (V.freezeL (V.lookL (applyW S (frzW S (V.refsL args))) args))).map fun r => (r.1, frzW S (V.refsL args) ++ r.2)
def unV (op : UnOp) : V → Option D
  | .d (.bool b) => match op with | .not => some (.bool (!b)) | _ => none
  | .d (.int k n) => match op with | .neg => some (.int k (k.wrap (0 - n))) | _ => none
  | _ => none
def bytesOf : List D → Option (List UInt8)
  | [] => some []
  | .int .u8 n :: r => (bytesOf r).map fun l => UInt8.ofNat n.toNat :: l
  | _ :: _ => none
def convB (E : Env) (S : St) (i : TI) (x : V) : Option V :=
  match i.desc with
  | .sl e 1 _ => (E.ty e).bind fun k => (match k.desc with
    | .int .u8 => (sliceOf S x).bind fun xs => (bytesOf xs).map fun l => .d (.str l)
    | _ => none)
  | _ => none
def convV (E : Env) (S : St) (src dst : Nat) (x : V) : Option V :=
  (E.ty src).bind fun i => (E.ty dst).bind fun j =>
    match j.desc with
    | .int k => (match x with
      | .d (.int _ n) => some (.d (.int k (k.wrap n)))
      | _ => none)
    | .str => (match x with
      | .d (.str s) => some (.d (.str s))
      | _ => convB E S i x)
    | _ => none
def maxV (op : Bool) : List V → Option V
  | [] => none
  | [x] => (intOf x).map fun _ => x
  | x :: y :: r => (intOf x).bind fun a => (intOf y).bind fun b => if r.isEmpty then some (.d (.int a.1 (if op then (if b.2 > a.2 then b.2 else a.2) else (if b.2 < a.2 then b.2 else a.2)))) else none
def extractV (n : Nat) : V → Option V
  | .tup vs => vs[n]?
  | _ => none
def indexV (E : Env) (t : Nat) (x i : V) : Option V :=
  (E.ty t).bind fun ti => (intOf i).bind fun k =>
    match ti.desc, x with
    | .str, .d (.str s) => if 0 ≤ k.2 then (if k.2 < s.length then (s[k.2.toNat]?).map fun b => .d (.int .u8 b.toNat) else none) else none
    | .arr n e s, .d (.agg cs) => (E.ty e).bind fun ei => if ei.size = s then (if 0 ≤ k.2 then (if k.2 < n then (pieceD ei cs (k.2.toNat * s)).map .d else none) else none) else none
    | _, _ => none
def fnV (f : Fn) (a c : List V) : V := if a.isEmpty && c.isEmpty then .d (.fn f) else .fn f a c
def isConst : Operand → Bool
  | .const _ => true
  | _ => false

def evCall (E : Env) (at_ : Nat) (T : Tm) (S : St) (c : Call) : Option (V × List (Nat × AObj)) :=
  (evs T c.args.toList).bind fun args =>
    match c.callee with
    | .builtin b =>
      (match b, args with
       | .len, [x] => (match c.argTypes.toList with | [t] => (E.ty t).bind fun i => (lenOf S i.desc x).map fun (n : Nat) => (V.d (D.int .i64 (n : Int)), []) | _ => none)
       | .append, [x, y] => (match c.argTypes.toList with | [t, t'] => if t' = t then appendV E at_ t S x y else none | _ => none)
       | .clear, [x] => (match c.argTypes.toList with | [t] => (E.elem t).bind fun _ => (clearV E t S x).map fun W => (V.tup [], W) | _ => none)
       | .max, l => (maxV true l).map fun v => (v, [])
       | .min, l => (maxV false l).map fun v => (v, [])
       | _, _ => none)
    | .value f => (ev T f).bind fun fv =>
      (match fv with
       | .d (.fn (.func g)) => callFn E at_ S g args
       | .fn (.func g) first cap => callFn E at_ S g (first ++ args ++ cap)
       | _ => none)
    | .invoke _ _ => none
def evOp (E : Env) (at_ : Nat) (T : Tm) (S : St) (op : Op) : Option (V × List (Nat × AObj)) :=
  match op with
  | .move x => (ev T x).map fun v => (v, [])
  | .assign x => (ev T x).map fun v => (v, [])
  | .pick c a b => (ev T c).bind fun c => (boolOf c).bind fun t => (if t then ev T a else ev T b).map fun v => (v, [])
  | .alloc t => (E.ty t).map fun i => (.ptr at_ 0, [(at_, .box i.zero)])
  | .box _ x => (ev T x).bind fun v => if v.boxable then some (.ptr at_ 0, [(at_, .box v.cells)]) else none
  | .build t ps => (evParts T ps.toList).bind fun l => (buildV E t l).map fun v => (v, [])
  | .buildSlice t n ps => (evParts T ps.toList).bind fun l => buildSliceV E at_ t n l
  | .load t x => (ev T x).bind fun v => (ldV E t S v).map fun v => (v, [])
  | .store t x y => (ev T x).bind fun x => (ev T y).bind fun y => (stV E t S x y).map fun p => (.any, [p])
  | .nilCheck x => (ev T x).bind fun v => (nilV v).map fun v => (v, [])
  | .binOp op t x y _ => (ev T x).bind fun a => (ev T y).bind fun b => (binV E (isConst x || isConst y) op t a b).map fun v => (.d v, [])
  | .unOp op _ x => (ev T x).bind fun x => (unV op x).map fun v => (.d v, [])
  | .convert s d x => (ev T x).bind fun x => (convV E S s d x).map fun v => (v, [])
  | .makeInterface t _ => (E.ty t).bind fun i => match i.desc with | .ifc => none | _ => some (.d .err, [])
  | .makeFunc f a c => (evs T a.toList).bind fun a => (evs T c.toList).map fun c => (fnV f a c, [])
  | .makeSlice t n c => (ev T n).bind fun n => (ev T c).bind fun c => (makeSliceV E at_ t n c).map fun p => (p.1, [p.2])
  | .slice t x lo hi mx => (ev T x).bind fun x => (evO T lo).bind fun lo => (evO T hi).bind fun hi => (evO T mx).bind fun mx => sliceV E t S x lo hi mx
  | .fieldAddr t x f => (ev T x).bind fun x => (fldA E t f x).map fun v => (v, [])
  | .field t x f => (ev T x).bind fun x => (fldV E t f x).map fun v => (v, [])
  | .indexAddr t x i => (ev T x).bind fun x => (ev T i).bind fun i => (intOf i).bind fun k => (idxA E t S x k.2).map fun v => (v, [])
  | .index t x i => (ev T x).bind fun x => (ev T i).bind fun i => (indexV E t x i).map fun v => (v, [])
  | .extract x n => (ev T x).bind fun x => (extractV n x).map fun v => (v, [])
  | .call c => evCall E at_ T S c
  | _ => none

def needs (E : Env) (T : Tm) : Op → Nat
  | .alloc _ | .box _ _ | .makeSlice _ _ _ => 1
  | .buildSlice _ _ _ => if E.rows then 1 else 0
  | .call c =>
    (match c.callee with
     | .builtin b => (match b with
        | .append => (match (c.args.toList.head?).bind (ev T) with | some (.own _ _) => 0 | _ => 1)
        | _ => 0)
     | .value f => (match ev T f with
        | some (.d (.fn (.func g))) => E.news g
        | some (.fn (.func g) _ _) => E.news g
        | _ => 0)
     | _ => 0)
  | _ => 0

/-! ## what is asked of the calls -/
def RArgs (γ : Gh) (S : St) (w : World) (args : List V) (vs : Array Value) : Prop :=
  vs.size = args.length ∧ ∀ (j : Nat) (y : V) (u : Value), args[j]? = some y → vs[j]? = some u → RV γ S w y u
def CallsV (P : Program) (f : Nat) (args : List V) (S : St) (R : V → St → Prop) : Prop :=
  ∀ γ w vs, Inv γ S w → RArgs γ S w args vs → Calls P f vs w fun e w' => ∃ v r γ' S', e = .returned v ∧ R r S' ∧ Inv γ' S' w' ∧ Ext S.length γ S w γ' S' w' ∧ RV γ' S' w' r v
def Enters (P : Program) (f : Nat) : Prop := ∀ vs w, (callFunc f vs).run P w = .ok (.enter f vs) w
/-- what a function's specification says is so -/
def SoundAt (P : Program) (f : Nat) (spec : List V → St → Option (V × St)) : Prop :=
  Enters P f ∧ ∀ args S r S', spec args S = some (r, S') → CallsV P f args S fun r' S'' => r' = r ∧ S'' = S'
def CallOk (P : Program) (E : Env) : Prop := ∀ f args S r S', E.call f args S = some (r, S') → Enters P f ∧ CallsV P f args S fun r' S'' => r' = r ∧ S'' = S'

structure RT (n : Nat) (γ : Gh) (S : St) (w : World) (T : Tm) (a : Act) : Prop where
  size : a.tmps.size = n
  defers : a.defers = []
  get : ∀ i, RV γ S w (T.get i) (a.tmps.getD i undef)

section
variable {P : Program} {E : Env} {γ : Gh} {S : St} {w : World} {T : Tm} {a : Act} {n : Nat}

theorem RV.of_ofValue {v : Value} {x : V} (h : ofValue v = some x) : RV γ S w x v := by
  unfold ofValue at h
  split at h <;> cases h
  · exact .d _ _ (.bool _)
  · exact .d _ _ (.int _ _)
  · exact .d _ _ (.str _ _ rfl)
  · exact .nil
  · exact .d _ _ .nilp
  · exact .d _ _ .nilf
  · exact .d _ _ .nili
  · exact .d _ _ .nilm

theorem ev_ok (hT : RT n γ S w T a) {x : Operand} {v : V} (h : ev T x = some v) : RV γ S w v (a.eval x) := by
  cases x with
  | tmp t => simp only [ev, Option.some.injEq] at h; subst h; exact hT.get t
  | const c =>
    simp only [ev] at h
    exact RV.of_ofValue h
  | global g => simp [ev] at h
  | func f => simp only [ev, Option.some.injEq] at h; subst h; exact .d _ _ (.fn _)

theorem evs_ok (hT : RT n γ S w T a) : ∀ {l : List Operand} {vs : List V}, evs T l = some vs → vs.length = l.length ∧ ∀ (j : Nat) (y : V), vs[j]? = some y → ∃ x, l[j]? = some x ∧ RV γ S w y (a.eval x)
  | [], vs, h => by simp [evs] at h; subst h; exact ⟨rfl, fun j y h => by simp at h⟩
  | x :: r, vs, h => by
    simp only [evs] at h
    cases hx : ev T x with
    | none => simp [hx] at h
    | some v =>
      simp only [hx, Option.bind_some, Option.map_eq_some_iff] at h
      obtain ⟨us, h, rfl⟩ := h
      obtain ⟨h1, h2⟩ := evs_ok hT h
      refine ⟨by simp [h1], fun j y hy => ?_⟩
      cases j with
      | zero => simp at hy; subst hy; exact ⟨x, rfl, ev_ok hT hx⟩
      | succ j => simp at hy; exact h2 j y hy

theorem evParts_ok (hT : RT n γ S w T a) : ∀ {l : List (Nat × Operand)} {vs : List (Nat × V)}, evParts T l = some vs → vs.map (·.1) = l.map (·.1) ∧ ∀ (j : Nat) (y : Nat × V), vs[j]? = some y → ∃ x, l[j]? = some x ∧ RV γ S w y.2 (a.eval x.2)
  | [], vs, h => by simp [evParts] at h; subst h; exact ⟨rfl, fun j y h => by simp at h⟩
  | (i, x) :: r, vs, h => by
    simp only [evParts] at h
    cases hx : ev T x with
    | none => simp [hx] at h
    | some v =>
      simp only [hx, Option.bind_some, Option.map_eq_some_iff] at h
      obtain ⟨us, h, rfl⟩ := h
      obtain ⟨h1, h2⟩ := evParts_ok hT h
      refine ⟨by simp [h1], fun j y hy => ?_⟩
      cases j with
      | zero => simp at hy; subst hy; exact ⟨(i, x), rfl, ev_ok hT hx⟩
      | succ j => simp at hy; exact h2 j y hy

theorem nodup_of_nodupB : ∀ {l : List Nat}, nodupB l = true → l.Nodup
  | [], _ => List.nodup_nil
  | i :: r, h => by
    simp only [nodupB, Bool.and_eq_true, Bool.not_eq_true', List.contains_eq_mem, decide_eq_false_iff_not] at h
    exact List.nodup_cons.2 ⟨h.1, nodup_of_nodupB h.2⟩

theorem RArgs.freeze {γ : Gh} {S : St} {w : World} {args : List V} {vs : Array Value} (h : RArgs γ S w args vs) : RArgs γ S w (V.freezeL args) vs := by
  refine ⟨by rw [V.freezeL_length]; exact h.1, fun j y u hy hu => ?_⟩
  rw [V.freezeL_get, Option.map_eq_some_iff] at hy
  obtain ⟨z, hz, rfl⟩ := hy
  exact (h.2 j z u hz hu).freeze
theorem RArgs.mono {γ γ' : Gh} {S S' : St} {w w' : World} {args : List V} {vs : Array Value} (h : RArgs γ S w args vs) (he : Ext S.length γ S w γ' S' w') : RArgs γ' S' w' args vs :=
  ⟨h.1, fun j y u hy hu => (h.2 j y u hy hu).mono he⟩
theorem V.lookL_get (S : St) : ∀ (cs : List V) (j : Nat), (V.lookL S cs)[j]? = (cs[j]?).map (V.look S)
  | [], j => by simp [V.lookL]
  | x :: r, 0 => by simp [V.lookL]
  | x :: r, j + 1 => by simpa [V.lookL] using V.lookL_get S r j
theorem V.lookL_length (S : St) : ∀ (cs : List V), (V.lookL S cs).length = cs.length
  | [] => rfl
  | x :: r => by simp [V.lookL, V.lookL_length S r]
theorem RV.look (hI : Inv γ S w) {x : V} {v : Value} (h : RV γ S w x v) : RV γ S w (x.look S) v := by
  induction h with
  | any v => exact .any v
  | und => exact .und
  | csl0 o lo a => exact .csl0 o lo a
  | csl o lo n cap a h ih => exact .csl o lo n cap a h
  | d x v h => exact .d x v h
  | nil => exact .nil
  | emp a c hc => exact .emp a c hc
  | own t e sz f xs v ht hf hd hk hz => exact .own t e sz f xs v ht hf hd hk hz
  | fsl xs a hd => exact .fsl xs a hd
  | sl o lo n ob v hv ho hb h =>
    simp only [V.look]
    split
    · rename_i e sz xs hfo
      exact .d _ _ (fro_rd hI hfo (.sl o lo n ob v hv ho hb h))
    · exact .sl o lo n ob v hv ho hb h
  | ptr o off b cs ho hb => exact .ptr o off b cs ho hb
  | eptr o i off ob a ho hb h => exact .eptr o i off ob a ho hb h
  | cptr off b o x vs hc hr => exact .cptr off b o x vs hc hr
  | mp o r kvs ho hb => exact .mp o r kvs ho hb
  | fn f first cap vf vc h1 h2 hf hc ih1 ih2 => exact .fn f first cap vf vc h1 h2 hf hc
  | agg cs vs hl h1 hr ih =>
    refine mkAgg_ok (by rw [V.lookL_length]; exact hl) h1 fun j y v hy hv => ?_
    rw [V.lookL_get, Option.map_eq_some_iff] at hy
    obtain ⟨z, hz, rfl⟩ := hy
    exact ih j z v hz hv
  | tup cs vs hl hr ih =>
    refine .tup _ vs (by rw [V.lookL_length]; exact hl) fun j y v hy hv => ?_
    rw [V.lookL_get, Option.map_eq_some_iff] at hy
    obtain ⟨z, hz, rfl⟩ := hy
    exact ih j z v hz hv
theorem RArgs.look (hI : Inv γ S w) {args : List V} {vs : Array Value} (h : RArgs γ S w args vs) : RArgs γ S w (V.lookL S args) vs := by
  refine ⟨by rw [V.lookL_length]; exact h.1, fun j y u hy hu => ?_⟩
  rw [V.lookL_get, Option.map_eq_some_iff] at hy
  obtain ⟨z, hz, rfl⟩ := hy
  exact (h.2 j z u hz hu).look hI

theorem applyW_append (S : St) (W W' : List (Nat × AObj)) : applyW S (W ++ W') = applyW (applyW S W) W' := by
  simp [applyW, List.foldl_append]
/-- rows, frozen one by one -/
theorem frzW_ok : ∀ (ids : List Nat) {γ : Gh} {S0 S : St} {w : World}, Inv γ S w → S.length = S0.length → (∀ (o e sz : Nat) (xs : List D), S0[o]? = some (AObj.row e sz xs) → S[o]? = some (AObj.row e sz xs) ∨ S[o]? = some (AObj.fro e sz xs)) →
    ∃ γ', Inv γ' (applyW S (frzW S0 ids)) w ∧ Ext S.length γ S w γ' (applyW S (frzW S0 ids)) w
  | [], γ, S0, S, w, hI, _, _ => ⟨γ, hI, Ext.refl (Nat.le_refl _)⟩
  | o :: r, γ, S0, S, w, hI, hl, h => by
    simp only [frzW]
    split
    · rename_i e sz xs ho
      have hr : rowAt S o = some (e, sz, xs) := by
        rcases h o e sz xs ho with h | h <;> simp [rowAt, h, AObj.rowOf]
      obtain ⟨γ1, g1, g2, _⟩ := freeze_row hI hr
      have hlo : o < S.length := by
        have := (List.getElem?_eq_some_iff.1 ho).1
        omega
      obtain ⟨γ2, k1, k2⟩ := frzW_ok r (γ := γ1) (S0 := S0) (S := S.set o (.fro e sz xs)) g1 (by simpa using hl) (fun p e' sz' xs' hp => by
        rw [List.getElem?_set' _ _ _ _ hlo]
        by_cases hop : o = p
        · subst hop
          rw [ho] at hp
          cases hp
          exact .inr (by simp)
        · rw [if_neg hop]
          exact h p e' sz' xs' hp)
      exact ⟨γ2, k1, g2.trans (k2.less (by simp))⟩
    · exact frzW_ok r hI hl h
theorem frz_ok (hI : Inv γ S w) (ids : List Nat) : ∃ γ', Inv γ' (applyW S (frzW S ids)) w ∧ Ext S.length γ S w γ' (applyW S (frzW S ids)) w :=
  frzW_ok ids hI rfl fun _ _ _ _ h => .inl h

theorem RD.scal1 {fz fz' : Nat → Nat → Prop} {w w' : World} {x : D} {v : Value} (h : RD fz w x v) (hs : x.scal1 = true) : RD fz' w' x v := by
  cases h with
  | sl sz xs a cap vs hs' hcap hmax hsz hc hr =>
    simp only [D.scal1, List.isEmpty_iff] at hs
    subst hs
    exact .sl 0 [] a cap vs (.inl rfl) hcap hmax (fun x hx => by cases hx) (fun i j hi => by simp at hi) (fun i j x y hx => by simp at hx)
  | agg => simp [D.scal1] at hs
  | str l s h => exact .str l s h
  | _ => constructor
theorem RD.scal {fz fz' : Nat → Nat → Prop} {w w' : World} {x : D} {v : Value} (h : RD fz w x v) (hs : x.scal = true) : RD fz' w' x v := by
  by_cases ha : ∃ cs, x = .agg cs
  · obtain ⟨cs, rfl⟩ := ha
    simp only [D.scal] at hs
    cases h with
    | agg _ vs hl h1 hr => exact .agg cs vs hl h1 fun j y v hy hv => (hr j y v hy hv).scal1 (List.all_eq_true.1 hs y (List.mem_of_getElem? hy))
  · refine h.scal1 ?_
    cases x <;> first | (simpa [D.scal] using hs) | (exact absurd ⟨_, rfl⟩ ha)
theorem RV.scal {γ' : Gh} {S' : St} {w' : World} {x : V} {v : Value} (h : RV γ S w x v) (hs : x.scal = true) : RV γ' S' w' x v := by
  cases h with
  | d x v h => exact .d _ _ (h.scal (by simpa [V.scal, V.scal1] using hs))
  | tup cs vs hl hr =>
    refine .tup cs vs hl fun j y v hy hv => ?_
    have h1 := List.all_eq_true.1 hs y (List.mem_of_getElem? hy)
    have := hr j y v hy hv
    cases this with
    | d x v h => exact .d _ _ (h.scal (by simpa [V.scal1] using h1))
    | _ => simp [V.scal1] at h1
  | _ => simp [V.scal, V.scal1] at hs

/-- a call, in the caller's own state -/
theorem callFn0_ok (hcall : CallOk P E) (hI : Inv γ S w) {at_ g : Nat} {args : List V} {vs : Array Value} {y : V} {W : List (Nat × AObj)} (h : callFn0 E at_ S g args = some (y, W))
    (hat : ∀ j, j < E.news g → S[at_ + j]? = some .dead ∧ γ.mu (at_ + j) = none) (ha : RArgs γ S w args vs) :
    Enters P g ∧ Calls P g vs w fun e w' => ∃ u γ', e = .returned u ∧ Inv γ' (applyW S W) w' ∧ Ext S.length γ S w γ' (applyW S W) w' ∧ RV γ' (applyW S W) w' y u := by
  unfold callFn0 at h
  simp only at h
  generalize hids : closure S 200 (V.refsL args) [] = ids at h
  split at h <;> first | (cases h; done) | skip
  split at h <;> first | (cases h; done) | skip
  rename_i hnd hlt
  cases hargs : V.unrenL (posOf ids) args with
  | none => simp [hargs] at h
  | some args' =>
    cases hf : focus (posOf ids) S ids with
    | none => simp [hargs, hf] at h
    | some T' =>
      simp only [hargs, hf, Option.bind_some] at h
      cases hr : E.call g args' T' with
      | none => simp [hr] at h
      | some r =>
        obtain ⟨r, T1⟩ := r
        simp only [hr, Option.bind_some] at h
        split at h <;> first | (cases h; done) | skip
        split at h <;> cases h
        rename_i hlen hlive
        obtain ⟨hent, hc⟩ := hcall g args' T' r T1 hr
        have hn := nodup_of_nodupB hnd
        have hlt' : ∀ i ∈ ids, i < at_ := fun i hi => by simpa using List.all_eq_true.1 hlt i hi
        obtain ⟨l1, g1⟩ := V.unrenL_get _ hargs
        refine ⟨hent, (hc (γ.part ids) w vs (hI.part hn hf) ⟨by rw [l1]; exact ha.1, fun j y u hy hu => ?_⟩).mono ?_⟩
        · obtain ⟨x, hx, hxy⟩ := g1 j y hy
          exact (ha.2 j x u hx hu).part hf hxy
        · rintro e w' ⟨v, r', γ1, S1, rfl, ⟨rfl, rfl⟩, hI1, he1, hrv⟩
          obtain ⟨γ', h1, h2, h3⟩ := merge hI hn hlt' hf hI1 he1 (fun k hk1 hk2 => hat (k - ids.length) (by omega)) (fun k hk1 hk2 hd => by
            have hm : AObj.dead ∈ S1.drop ids.length := List.mem_of_getElem? (i := k - ids.length) (by rw [List.getElem?_drop, show ids.length + (k - ids.length) = k by omega]; exact hd)
            have := List.all_eq_true.1 hlive _ hm
            cases this)
          exact ⟨v, γ', rfl, h1, h2, hrv.ren h3⟩

mutual
theorem V.unren_refs (f : Nat → Option Nat) : ∀ (v : V), v.refs = [] → v.unren f = some v
  | .any, _ => rfl
  | .und, _ => rfl
  | .d x, _ => rfl
  | .nil, _ => rfl
  | .emp, _ => rfl
  | .fsl xs, _ => rfl
  | .cptr x off, _ => rfl
  | .own t xs, h => by simp [V.refs] at h
  | .sl o lo n, h => by simp [V.refs] at h
  | .csl o lo n, h => by simp [V.refs] at h
  | .ptr o off, h => by simp [V.refs] at h
  | .eptr o i off, h => by simp [V.refs] at h
  | .mp o, h => by simp [V.refs] at h
  | .fn g a c, h => by
    simp only [V.refs, List.append_eq_nil_iff] at h
    simp [V.unren, V.unrenL_refs f a h.1, V.unrenL_refs f c h.2]
  | .agg cs, h => by
    simp only [V.refs] at h
    simp [V.unren, V.unrenL_refs f cs h]
  | .tup cs, h => by
    simp only [V.refs] at h
    simp [V.unren, V.unrenL_refs f cs h]
theorem V.unrenL_refs (f : Nat → Option Nat) : ∀ (l : List V), V.refsL l = [] → V.unrenL f l = some l
  | [], _ => rfl
  | x :: r, h => by
    simp only [V.refsL, List.append_eq_nil_iff] at h
    simp [V.unrenL, V.unren_refs f x h.1, V.unrenL_refs f r h.2]
end
theorem callFn_ok (hcall : CallOk P E) (hI : Inv γ S w) {at_ g : Nat} {args : List V} {vs : Array Value} {y : V} {W : List (Nat × AObj)} (h : callFn E at_ S g args = some (y, W))
    (hat : ∀ j, j < E.news g → S[at_ + j]? = some .dead ∧ γ.mu (at_ + j) = none) (ha : RArgs γ S w args vs) :
    Enters P g ∧ Calls P g vs w fun e w' => ∃ u γ', e = .returned u ∧ Inv γ' (applyW S W) w' ∧ Ext S.length γ S w γ' (applyW S W) w' ∧ RV γ' (applyW S W) w' y u := by
  unfold callFn at h
  split at h
  · exact callFn0_ok hcall hI h hat ha.freeze
  · split at h <;> first | (cases h; done) | skip
    rename_i hrefs
    obtain ⟨γ1, g1, g2⟩ := frz_ok hI (V.refsL args)
    have ha1 := ((ha.mono g2).look g1).freeze
    generalize V.freezeL (V.lookL (applyW S (frzW S (V.refsL args))) args) = as at h hrefs ha1
    generalize applyW S (frzW S (V.refsL args)) = S1 at g1 g2 ha1
    cases hr : E.call g as [] with
    | none => simp [hr] at h
    | some r =>
      obtain ⟨r, T1⟩ := r
      simp only [hr, Option.bind_some] at h
      split at h <;> first | (cases h; done) | skip
      split at h <;> first | (cases h; done) | skip
      rename_i hT1 hsc
      simp only [List.isEmpty_iff] at hT1
      subst hT1
      simp only [Option.some.injEq, Prod.mk.injEq] at h
      obtain ⟨rfl, rfl⟩ := h
      obtain ⟨hent, hc⟩ := hcall g as [] r [] hr
      have hf : focus (posOf []) S1 [] = some [] := rfl
      refine ⟨hent, (hc (γ1.part []) w vs (g1.part (by simp) hf) ⟨ha1.1, fun j y u hy hu => ?_⟩).mono ?_⟩
      · refine (ha1.2 j y u hy hu).part hf ?_
        have : y.refs = [] := by
          have key : ∀ (l : List V), V.refsL l = [] → ∀ z ∈ l, z.refs = [] := by
            intro l
            induction l with
            | nil => intro _ z hz; cases hz
            | cons x l ih =>
              intro h z hz
              simp only [V.refsL, List.append_eq_nil_iff] at h
              rcases List.mem_cons.1 hz with rfl | hz
              · exact h.1
              · exact ih h.2 z hz
          exact key as hrefs y (List.mem_of_getElem? hy)
        exact V.unren_refs _ _ this
      · rintro e w' ⟨v, r', γ2, S2, rfl, ⟨rfl, rfl⟩, hI1, he1, hrv⟩
        have hold : ∀ b, b < w.heap.size → w'.heap[b]? = w.heap[b]? := fun b hb => he1.rest b hb (fun ⟨k, hk, _⟩ => by simp at hk)
        exact ⟨v, γ, rfl, hI.world he1.size hold he1.os he1.output he1.tape, Ext.world hI he1.size hold he1.os he1.output he1.tape, hrv.scal hsc⟩
  · generalize closure S 200 (V.refsL (V.freezeL args)) [] = ids at h
    cases hr : callFn0 E at_ S g (V.freezeL args) with
    | none => rw [hr] at h; cases h
    | some r =>
      obtain ⟨y', W2⟩ := r
      rw [hr] at h
      simp only [kRo] at h
      split at h <;> first | (cases h; done) | skip
      rename_i hun
      cases h
      obtain ⟨k1, k2⟩ := callFn0_ok hcall hI hr hat ha.freeze
      rw [applyW_unch hun] at k2
      exact ⟨k1, k2⟩
  · simp only [Option.map_eq_some_iff] at h
    obtain ⟨⟨y', W2⟩, h, he⟩ := h
    cases he
    obtain ⟨γ1, g1, g2⟩ := frz_ok hI (V.refsL args)
    have hdd : ∀ (ids : List Nat) (T : St) (k : Nat), T[k]? = some .dead → S[k]? = some .dead → (applyW T (frzW S ids))[k]? = some .dead := by
      intro ids
      induction ids with
      | nil => intro T k h _; exact h
      | cons o r ih =>
        intro T k h hS
        simp only [frzW]
        split
        · rename_i e sz xs ho
          refine ih _ k ?_ hS
          have hne : o ≠ k := fun e => by subst e; rw [ho] at hS; cases hS
          show (T.set o (.fro e sz xs))[k]? = some .dead
          rw [List.getElem?_set_ne hne]
          exact h
        · exact ih T k h hS
    obtain ⟨k1, k2⟩ := callFn0_ok hcall g1 h (fun j hj => by
      obtain ⟨q1, q2⟩ := hat j hj
      have hd := hdd (V.refsL args) S _ q1 q1
      refine ⟨hd, ?_⟩
      have hlt : at_ + j < S.length := (List.getElem?_eq_some_iff.1 q1).1
      have := g2.obj (at_ + j) _ hlt q1
      exact (this hd).trans q2) ((ha.mono g2).look g1).freeze
    refine ⟨k1, k2.mono ?_⟩
    rintro e w' ⟨u, γ', rfl, q1, q2, q3⟩
    rw [applyW_append]
    exact ⟨u, γ', rfl, q1, g2.trans (q2.less (by simp [applyW_length])), q3⟩
theorem wp_value {o : Oper} {K : Act → World → Prop} {Q : Exit → Act → World → Prop} {u : Value} {w' : World} (h : (execOp a.eval o).run P w = .ok (.value u) w') (hK : K (a.put o.dst u) w') : o.wp P a w K Q := by
  unfold Oper.wp
  rw [h]
  exact hK

theorem getD_eval_map (l : Array Operand) (j : Nat) (x : Operand) (h : l.toList[j]? = some x) : (l.map a.eval)[j]? = some (a.eval x) := by
  have h' : l[j]? = some x := by simpa using h
  simp [h']

theorem RArgs.of_evs (hT : RT n γ S w T a) {l : Array Operand} {vs : List V} (h : evs T l.toList = some vs) : RArgs γ S w vs (l.map a.eval) := by
  obtain ⟨h1, h2⟩ := evs_ok hT h
  refine ⟨by simpa using h1.symm, fun j y u hy hu => ?_⟩
  obtain ⟨x, hx, hr⟩ := h2 j y hy
  rw [getD_eval_map l j x hx] at hu
  cases hu
  exact hr

theorem RArgs.append {x y : List V} {vs us : Array Value} (h : RArgs γ S w x vs) (h' : RArgs γ S w y us) : RArgs γ S w (x ++ y) (vs ++ us) := by
  obtain ⟨l1, g1⟩ := h
  obtain ⟨l2, g2⟩ := h'
  refine ⟨by simp [l1, l2], fun j z u hz hu => ?_⟩
  by_cases hj : j < x.length
  · rw [List.getElem?_append_left hj] at hz
    rw [Array.getElem?_append_left (by omega)] at hu
    exact g1 j z u hz hu
  · rw [List.getElem?_append_right (by omega)] at hz
    rw [Array.getElem?_append_right (by omega), l1] at hu
    exact g2 _ z u hz hu

end
end
end Go.Wm
