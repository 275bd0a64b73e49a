/-
  A part of the proof: an abstract run of the program, shown to be what the model does, and what it comes to.
-/
import Derived.Test.YtfopbbeieegfcaaVmM
set_option linter.unusedVariables false
set_option linter.unusedSimpArgs false
set_option linter.unusedSectionVars false
set_option linter.unnecessarySimpa false
namespace Go.Vm
open Go

def evParts (T : Tm) : List (Nat × Operand) → Option (List (Nat × V))
  | [] => some []
  | (i, x) :: r => (ev T x).bind fun v => (evParts T r).map fun vs => (i, v) :: vs
def evO (T : Tm) : Option Operand → Option (Option V)
  | none => some none
  | some x => (ev T x).map some
def nodupB : List Nat → Bool
  | [] => true
  | i :: r => !(r.contains i) && nodupB r
/-- all that is reached from these -/
def closure (S : St) : Nat → List Nat → List Nat → List Nat
  | 0, _, acc => acc
  | _ + 1, [], acc => acc
  | n + 1, i :: r, acc => if acc.contains i then closure S n r acc else closure S n (((S[i]?).map AObj.refs).getD [] ++ r) (acc ++ [i])
def AObj.live : AObj → Bool
  | .dead => false
  | _ => true
def callFn0 (E : Env) (at_ : Nat) (S : St) (g : Nat) (args : List V) : Option (V × List (Nat × AObj)) :=
  let ids := closure S 200 (V.refsL args) []
  if nodupB ids then (if ids.all (· < at_) then
    (V.unrenL (posOf ids) args).bind fun args => (focus (posOf ids) S ids).bind fun T => (E.call g args T).bind fun r =>
      if r.2.length ≤ ids.length + E.news g then (if (r.2.drop ids.length).all AObj.live then some (r.1.ren (back ids at_), callW (back ids at_) r.2 0) else none) else none
    else none) else none
/-- an argument is looked at alone: nothing is appended to it -/
def callFn (E : Env) (at_ : Nat) (S : St) (g : Nat) (args : List V) : Option (V × List (Nat × AObj)) := callFn0 E at_ S g (V.freezeL args)
def unV (op : UnOp) : V → Option D
  | .d (.bool b) => match op with | .not => some (.bool (!b)) | _ => none
  | .d (.int k n) => match op with | .neg => some (.int k (k.wrap (0 - n))) | _ => none
  | _ => none
def convV (E : Env) (src dst : Nat) (x : V) : Option V :=
  (E.ty src).bind fun _ => (E.ty dst).bind fun j =>
    match j.desc, x with
    | .int k, .d (.int _ n) => some (.d (.int k (k.wrap n)))
    | .str, .d (.str s) => some (.d (.str s))
    | _, _ => none
def maxV (op : Bool) : List V → Option V
  | [] => none
  | [x] => (intOf x).map fun _ => x
  | x :: y :: r => (intOf x).bind fun a => (intOf y).bind fun b => if r.isEmpty then some (.d (.int a.1 (if op then (if b.2 > a.2 then b.2 else a.2) else (if b.2 < a.2 then b.2 else a.2)))) else none
def extractV (n : Nat) : V → Option V
  | .tup vs => vs[n]?
  | _ => none
def indexV (E : Env) (t : Nat) (x i : V) : Option V :=
  (E.ty t).bind fun ti => (intOf i).bind fun k =>
    match ti.desc, x with
    | .str, .d (.str s) => if 0 ≤ k.2 then (if k.2 < s.size then (s[k.2.toNat]?).map fun b => .d (.int .u8 b.toNat) else none) else none
    | _, _ => none
def fnV (f : Fn) (a c : List V) : V := if a.isEmpty && c.isEmpty then .d (.fn f) else .fn f a c

def evCall (E : Env) (at_ : Nat) (T : Tm) (S : St) (c : Call) : Option (V × List (Nat × AObj)) :=
  (evs T c.args.toList).bind fun args =>
    match c.callee with
    | .builtin b =>
      (match b, args with
       | .len, [x] => (match c.argTypes.toList with | [t] => (E.ty t).bind fun i => (lenOf i.desc x).map fun (n : Nat) => (V.d (D.int .i64 (n : Int)), []) | _ => none)
       | .append, [x, y] => (match c.argTypes.toList with | [t, t'] => if t' = t then (appendV E at_ t S x y).map fun r => (r.1, [r.2]) else none | _ => none)
       | .max, l => (maxV true l).map fun v => (v, [])
       | .min, l => (maxV false l).map fun v => (v, [])
       | _, _ => none)
    | .value f => (ev T f).bind fun fv =>
      (match fv with
       | .d (.fn (.func g)) => callFn E at_ S g args
       | .fn (.func g) first cap => callFn E at_ S g (first ++ args ++ cap)
       | _ => none)
    | .invoke _ _ => none
def evOp (E : Env) (at_ : Nat) (T : Tm) (S : St) (op : Op) : Option (V × List (Nat × AObj)) :=
  match op with
  | .move x => (ev T x).map fun v => (v, [])
  | .assign x => (ev T x).map fun v => (v, [])
  | .pick c a b => (ev T c).bind fun c => (boolOf c).bind fun t => (if t then ev T a else ev T b).map fun v => (v, [])
  | .alloc t => (E.ty t).map fun i => (.ptr at_ 0, [(at_, .box (i.zero.cells.map .d))])
  | .box _ x => (ev T x).bind fun v => if v.boxable then some (.ptr at_ 0, [(at_, .box v.cells)]) else none
  | .build t ps => (evParts T ps.toList).bind fun l => (buildV E t l).map fun v => (v, [])
  | .buildSlice t n ps => (evParts T ps.toList).bind fun l => (buildSliceV E t n l).map fun v => (v, [])
  | .load t x => (ev T x).bind fun v => (ldV E t S v).map fun v => (v, [])
  | .store t x y => (ev T x).bind fun x => (ev T y).bind fun y => (stV E t S x y).map fun p => (.any, [p])
  | .nilCheck x => (ev T x).bind fun v => (nilV v).map fun v => (v, [])
  | .binOp op t x y _ => (ev T x).bind fun x => (ev T y).bind fun y => (binV E op t x y).map fun v => (.d v, [])
  | .unOp op _ x => (ev T x).bind fun x => (unV op x).map fun v => (.d v, [])
  | .convert s d x => (ev T x).bind fun x => (convV E s d x).map fun v => (v, [])
  | .makeFunc f a c => (evs T a.toList).bind fun a => (evs T c.toList).map fun c => (fnV f a c, [])
  | .slice t x lo hi mx => (ev T x).bind fun x => (evO T lo).bind fun lo => (evO T hi).bind fun hi => (evO T mx).bind fun mx => (sliceV E t x lo hi mx).map fun v => (v, [])
  | .fieldAddr t x f => (ev T x).bind fun x => (fldA E t f x).map fun v => (v, [])
  | .field t x f => (ev T x).bind fun x => (fldV E t f x).map fun v => (v, [])
  | .indexAddr t x i => (ev T x).bind fun x => (ev T i).bind fun i => (intOf i).bind fun k => (idxA E t x k.2).map fun v => (v, [])
  | .index t x i => (ev T x).bind fun x => (ev T i).bind fun i => (indexV E t x i).map fun v => (v, [])
  | .extract x n => (ev T x).bind fun x => (extractV n x).map fun v => (v, [])
  | .call c => evCall E at_ T S c
  | _ => none

def needs (E : Env) (T : Tm) : Op → Nat
  | .alloc _ | .box _ _ => 1
  | .call c =>
    (match c.callee with
     | .builtin b => (match b with
        | .append => (match (c.args.toList.head?).bind (ev T) with | some (.own _ _ _ _) => 0 | _ => 1)
        | _ => 0)
     | .value f => (match ev T f with
        | some (.d (.fn (.func g))) => E.news g
        | some (.fn (.func g) _ _) => E.news g
        | _ => 0)
     | _ => 0)
  | _ => 0

/-! ## what is asked of the calls -/
def RArgs (γ : Gh) (S : St) (w : World) (args : List V) (vs : Array Value) : Prop :=
  vs.size = args.length ∧ ∀ (j : Nat) (y : V) (u : Value), args[j]? = some y → vs[j]? = some u → RV γ S w y u
def CallsV (P : Program) (f : Nat) (args : List V) (S : St) (R : V → St → Prop) : Prop :=
  ∀ γ w vs, Inv γ S w → RArgs γ S w args vs → Calls P f vs w fun e w' => ∃ v r γ' S', e = .returned v ∧ R r S' ∧ Inv γ' S' w' ∧ Ext S.length γ S w γ' S' w' ∧ RV γ' S' w' r v
def Enters (P : Program) (f : Nat) : Prop := ∀ vs w, (callFunc f vs).run P w = .ok (.enter f vs) w
/-- what a function's specification says is so -/
def SoundAt (P : Program) (f : Nat) (spec : List V → St → Option (V × St)) : Prop :=
  Enters P f ∧ ∀ args S r S', spec args S = some (r, S') → CallsV P f args S fun r' S'' => r' = r ∧ S'' = S'
def CallOk (P : Program) (E : Env) : Prop := ∀ f args S r S', E.call f args S = some (r, S') → Enters P f ∧ CallsV P f args S fun r' S'' => r' = r ∧ S'' = S'

structure RT (n : Nat) (γ : Gh) (S : St) (w : World) (T : Tm) (a : Act) : Prop where
  size : a.tmps.size = n
  defers : a.defers = []
  get : ∀ i, RV γ S w (T.get i) (a.tmps.getD i undef)

section
variable {P : Program} {E : Env} {γ : Gh} {S : St} {w : World} {T : Tm} {a : Act} {n : Nat}

theorem RD.of_ofValue {v : Value} {x : D} (h : ofValue v = some x) : RD γ.fz w x v := by
  unfold ofValue at h
  split at h <;> cases h <;> constructor

theorem ev_ok (hT : RT n γ S w T a) {x : Operand} {v : V} (h : ev T x = some v) : RV γ S w v (a.eval x) := by
  cases x with
  | tmp t => simp only [ev, Option.some.injEq] at h; subst h; exact hT.get t
  | const c =>
    simp only [ev, Option.map_eq_some_iff] at h
    obtain ⟨y, h, rfl⟩ := h
    exact .d _ _ (RD.of_ofValue h)
  | global g => simp [ev] at h
  | func f => simp only [ev, Option.some.injEq] at h; subst h; exact .d _ _ (.fn _)

theorem evs_ok (hT : RT n γ S w T a) : ∀ {l : List Operand} {vs : List V}, evs T l = some vs → vs.length = l.length ∧ ∀ (j : Nat) (y : V), vs[j]? = some y → ∃ x, l[j]? = some x ∧ RV γ S w y (a.eval x)
  | [], vs, h => by simp [evs] at h; subst h; exact ⟨rfl, fun j y h => by simp at h⟩
  | x :: r, vs, h => by
    simp only [evs] at h
    cases hx : ev T x with
    | none => simp [hx] at h
    | some v =>
      simp only [hx, Option.bind_some, Option.map_eq_some_iff] at h
      obtain ⟨us, h, rfl⟩ := h
      obtain ⟨h1, h2⟩ := evs_ok hT h
      refine ⟨by simp [h1], fun j y hy => ?_⟩
      cases j with
      | zero => simp at hy; subst hy; exact ⟨x, rfl, ev_ok hT hx⟩
      | succ j => simp at hy; exact h2 j y hy

theorem evParts_ok (hT : RT n γ S w T a) : ∀ {l : List (Nat × Operand)} {vs : List (Nat × V)}, evParts T l = some vs → vs.map (·.1) = l.map (·.1) ∧ ∀ (j : Nat) (y : Nat × V), vs[j]? = some y → ∃ x, l[j]? = some x ∧ RV γ S w y.2 (a.eval x.2)
  | [], vs, h => by simp [evParts] at h; subst h; exact ⟨rfl, fun j y h => by simp at h⟩
  | (i, x) :: r, vs, h => by
    simp only [evParts] at h
    cases hx : ev T x with
    | none => simp [hx] at h
    | some v =>
      simp only [hx, Option.bind_some, Option.map_eq_some_iff] at h
      obtain ⟨us, h, rfl⟩ := h
      obtain ⟨h1, h2⟩ := evParts_ok hT h
      refine ⟨by simp [h1], fun j y hy => ?_⟩
      cases j with
      | zero => simp at hy; subst hy; exact ⟨(i, x), rfl, ev_ok hT hx⟩
      | succ j => simp at hy; exact h2 j y hy

theorem nodup_of_nodupB : ∀ {l : List Nat}, nodupB l = true → l.Nodup
  | [], _ => List.nodup_nil
  | i :: r, h => by
    simp only [nodupB, Bool.and_eq_true, Bool.not_eq_true', List.contains_eq_mem, decide_eq_false_iff_not] at h
    exact List.nodup_cons.2 ⟨h.1, nodup_of_nodupB h.2⟩

/-- a call, in the caller's own state -/
theorem callFn0_ok (hcall : CallOk P E) (hI : Inv γ S w) {at_ g : Nat} {args : List V} {vs : Array Value} {y : V} {W : List (Nat × AObj)} (h : callFn0 E at_ S g args = some (y, W))
    (hat : ∀ j, j < E.news g → S[at_ + j]? = some .dead ∧ γ.mu (at_ + j) = none) (ha : RArgs γ S w args vs) :
    Enters P g ∧ Calls P g vs w fun e w' => ∃ u γ', e = .returned u ∧ Inv γ' (applyW S W) w' ∧ Ext S.length γ S w γ' (applyW S W) w' ∧ RV γ' (applyW S W) w' y u := by
  unfold callFn0 at h
  simp only at h
  generalize hids : closure S 200 (V.refsL args) [] = ids at h
  split at h <;> first | (cases h; done) | skip
  split at h <;> first | (cases h; done) | skip
  rename_i hnd hlt
  cases hargs : V.unrenL (posOf ids) args with
  | none => simp [hargs] at h
  | some args' =>
    cases hf : focus (posOf ids) S ids with
    | none => simp [hargs, hf] at h
    | some T' =>
      simp only [hargs, hf, Option.bind_some] at h
      cases hr : E.call g args' T' with
      | none => simp [hr] at h
      | some r =>
        obtain ⟨r, T1⟩ := r
        simp only [hr, Option.bind_some] at h
        split at h <;> first | (cases h; done) | skip
        split at h <;> cases h
        rename_i hlen hlive
        obtain ⟨hent, hc⟩ := hcall g args' T' r T1 hr
        have hn := nodup_of_nodupB hnd
        have hlt' : ∀ i ∈ ids, i < at_ := fun i hi => by simpa using List.all_eq_true.1 hlt i hi
        obtain ⟨l1, g1⟩ := V.unrenL_get _ hargs
        refine ⟨hent, (hc (γ.part ids) w vs (hI.part hn hf) ⟨by rw [l1]; exact ha.1, fun j y u hy hu => ?_⟩).mono ?_⟩
        · obtain ⟨x, hx, hxy⟩ := g1 j y hy
          exact (ha.2 j x u hx hu).part hf hxy
        · rintro e w' ⟨v, r', γ1, S1, rfl, ⟨rfl, rfl⟩, hI1, he1, hrv⟩
          obtain ⟨γ', h1, h2, h3⟩ := merge hI hn hlt' hf hI1 he1 (fun k hk1 hk2 => hat (k - ids.length) (by omega)) (fun k hk1 hk2 hd => by
            have hm : AObj.dead ∈ S1.drop ids.length := List.mem_of_getElem? (i := k - ids.length) (by rw [List.getElem?_drop, show ids.length + (k - ids.length) = k by omega]; exact hd)
            have := List.all_eq_true.1 hlive _ hm
            cases this)
          exact ⟨v, γ', rfl, h1, h2, hrv.ren h3⟩

theorem RArgs.freeze {γ : Gh} {S : St} {w : World} {args : List V} {vs : Array Value} (h : RArgs γ S w args vs) : RArgs γ S w (V.freezeL args) vs := by
  refine ⟨by rw [V.freezeL_length]; exact h.1, fun j y u hy hu => ?_⟩
  rw [V.freezeL_get, Option.map_eq_some_iff] at hy
  obtain ⟨z, hz, rfl⟩ := hy
  exact (h.2 j z u hz hu).freeze
theorem callFn_ok (hcall : CallOk P E) (hI : Inv γ S w) {at_ g : Nat} {args : List V} {vs : Array Value} {y : V} {W : List (Nat × AObj)} (h : callFn E at_ S g args = some (y, W))
    (hat : ∀ j, j < E.news g → S[at_ + j]? = some .dead ∧ γ.mu (at_ + j) = none) (ha : RArgs γ S w args vs) :
    Enters P g ∧ Calls P g vs w fun e w' => ∃ u γ', e = .returned u ∧ Inv γ' (applyW S W) w' ∧ Ext S.length γ S w γ' (applyW S W) w' ∧ RV γ' (applyW S W) w' y u :=
  callFn0_ok hcall hI h hat ha.freeze
theorem wp_value {o : Oper} {K : Act → World → Prop} {Q : Exit → Act → World → Prop} {u : Value} {w' : World} (h : (execOp a.eval o).run P w = .ok (.value u) w') (hK : K (a.put o.dst u) w') : o.wp P a w K Q := by
  unfold Oper.wp
  rw [h]
  exact hK

theorem getD_eval_map (l : Array Operand) (j : Nat) (x : Operand) (h : l.toList[j]? = some x) : (l.map a.eval)[j]? = some (a.eval x) := by
  have h' : l[j]? = some x := by simpa using h
  simp [h']

theorem RArgs.of_evs (hT : RT n γ S w T a) {l : Array Operand} {vs : List V} (h : evs T l.toList = some vs) : RArgs γ S w vs (l.map a.eval) := by
  obtain ⟨h1, h2⟩ := evs_ok hT h
  refine ⟨by simpa using h1.symm, fun j y u hy hu => ?_⟩
  obtain ⟨x, hx, hr⟩ := h2 j y hy
  rw [getD_eval_map l j x hx] at hu
  cases hu
  exact hr

theorem RArgs.append {x y : List V} {vs us : Array Value} (h : RArgs γ S w x vs) (h' : RArgs γ S w y us) : RArgs γ S w (x ++ y) (vs ++ us) := by
  obtain ⟨l1, g1⟩ := h
  obtain ⟨l2, g2⟩ := h'
  refine ⟨by simp [l1, l2], fun j z u hz hu => ?_⟩
  by_cases hj : j < x.length
  · rw [List.getElem?_append_left hj] at hz
    rw [Array.getElem?_append_left (by omega)] at hu
    exact g1 j z u hz hu
  · rw [List.getElem?_append_right (by omega)] at hz
    rw [Array.getElem?_append_right (by omega), l1] at hu
    exact g2 _ z u hz hu

end
end Go.Vm
