/-
  A part of the proof: an abstract run of the program, shown to be what the model does, and what it comes to.
-/
import Derived.Test.YtmfjfejjegemaaaGreatDoorWmY
set_option linter.unusedVariables false
set_option linter.unusedSimpArgs false
set_option linter.unnecessarySimpa false
set_option linter.defProp false
set_option linter.unusedSectionVars false
namespace Go.Wm
open Go
noncomputable section

/-! ## values that refer to no object -/
theorem V.unren_none (f : Nat → Option Nat) (v : V) (h : v.refs = []) : v.unren f = some v := V.unren_refs f v h
theorem V.unrenL_none (f : Nat → Option Nat) (l : List V) (h : V.refsL l = []) : V.unrenL f l = some l := V.unrenL_refs f l h
mutual
theorem V.ren_none (f : Nat → Nat) : ∀ (v : V), v.refs = [] → v.ren f = v
  | .any, _ => rfl
  | .und, _ => rfl
  | .d x, _ => rfl
  | .nil, _ => rfl
  | .emp, _ => rfl
  | .own t xs, h => by simp [V.refs] at h
  | .fsl xs, _ => rfl
  | .sl o lo n, h => by simp [V.refs] at h
  | .csl o lo n, h => by simp [V.refs] at h
  | .ptr o off, h => by simp [V.refs] at h
  | .eptr o i off, h => by simp [V.refs] at h
  | .mp o, h => by simp [V.refs] at h
  | .cptr x off, _ => rfl
  | .fn g a c, h => by
    simp only [V.refs, List.append_eq_nil_iff] at h
    simp only [V.ren, V.renL_none f a h.1, V.renL_none f c h.2]
  | .agg cs, h => by
    simp only [V.refs] at h
    simp only [V.ren, V.renL_none f cs h]
  | .tup cs, h => by
    simp only [V.refs] at h
    simp only [V.ren, V.renL_none f cs h]
theorem V.renL_none (f : Nat → Nat) : ∀ (l : List V), V.refsL l = [] → V.renL f l = l
  | [], _ => rfl
  | x :: r, h => by
    simp only [V.refsL, List.append_eq_nil_iff] at h
    simp only [V.renL, V.ren_none f x h.1, V.renL_none f r h.2]
end
theorem refsL_map (l : List D) : V.refsL (l.map V.d) = [] := by
  induction l with
  | nil => rfl
  | cons x r ih => simp [V.refsL, V.refs, ih]
theorem unrenL_map (f : Nat → Option Nat) (l : List D) : V.unrenL f (l.map V.d) = some (l.map V.d) := V.unrenL_none f _ (refsL_map l)
theorem renL_map (f : Nat → Nat) (l : List D) : V.renL f (l.map V.d) = l.map V.d := V.renL_none f _ (refsL_map l)

theorem wrap_i64 {n : Int} (h1 : -9223372036854775808 ≤ n) (h2 : n ≤ 9223372036854775807) : IntKind.i64.wrap n = n := by
  simp only [IntKind.wrap, IntKind.bits, IntKind.signed]
  simp
  split <;> omega
theorem wrap_u64 {n : Int} (h1 : 0 ≤ n) (h2 : n ≤ 18446744073709551615) : IntKind.u64.wrap n = n := by
  simp only [IntKind.wrap, IntKind.bits, IntKind.signed]
  simp
  omega

/-! ### the objects that one is handed, that one leaves: rules -/
def unrenO (f : Nat → Option Nat) : Option AObj → Option AObj
  | some ob => ob.unren f
  | none => none
def refsOb : Option AObj → List Nat
  | some ob => ob.refs
  | none => []
theorem unrenO_some (f : Nat → Option Nat) (ob : AObj) : unrenO f (some ob) = ob.unren f := rfl
theorem refsOb_some (ob : AObj) : refsOb (some ob) = ob.refs := rfl
theorem focus_nil (f : Nat → Option Nat) (S : St) : focus f S [] = some [] := rfl
theorem focus_cons (f : Nat → Option Nat) (S : St) (i : Nat) (r : List Nat) : focus f S (i :: r) = consO (unrenO f S[i]?) (focus f S r) := by
  simp only [focus]
  cases S[i]? with
  | none => rfl
  | some ob =>
    simp only [Option.bind_some, unrenO]
    cases ob.unren f with
    | none => rfl
    | some ob' => cases focus f S r <;> rfl
theorem closure_nil (S : St) (n : Nat) (acc : List Nat) : closure S n [] acc = acc := by cases n <;> rfl
theorem closure_cons (S : St) (n i : Nat) (r acc : List Nat) : closure S (n + 1) (i :: r) acc = if acc.contains i then closure S n r acc else closure S n (refsOb S[i]? ++ r) (acc ++ [i]) := by
  simp only [closure]
  cases S[i]? <;> rfl
theorem tunren_nil (f : Nat → Option Nat) : Tm.unren f [] = some [] := rfl
theorem tunren_cons (f : Nat → Option Nat) (i : Nat) (v : V) (r : Tm) : Tm.unren f ((i, v) :: r) = consO (pairO i (v.unren f)) (Tm.unren f r) := by
  simp only [Tm.unren]
  cases v.unren f with
  | none => rfl
  | some v' => cases Tm.unren f r <;> rfl
theorem unrenL_cons' (f : Nat → Option Nat) (x : V) (r : List V) : V.unrenL f (x :: r) = consO (x.unren f) (V.unrenL f r) := by
  simp only [V.unrenL]
  cases x.unren f with
  | none => rfl
  | some v' => cases V.unrenL f r <;> rfl
def kPair {α : Type} : Option α → Option St → Option (α × St)
  | some v, some S => some (v, S)
  | _, _ => none
theorem kPair_some {α : Type} (v : α) (S : St) : kPair (some v) (some S) = some (v, S) := rfl
def kFin (v : V) (S : St) (ids : List Nat) : Option (V × St) := if nodupB ids then kPair (v.unren (posOf ids)) (focus (posOf ids) S ids) else none
def kGc (T : Tm) (S : St) (ids : List Nat) : Option (Tm × St) := if nodupB ids then kPair (Tm.unren (posOf ids) T) (focus (posOf ids) S ids) else none
theorem finish_eq (base : Nat) (v : V) (S : St) : finish base v S = kFin v S (reached base v.refs S) := by
  unfold finish kFin
  simp only
  split
  · cases v.unren (posOf (reached base v.refs S)) with
    | none => cases focus (posOf (reached base v.refs S)) S (reached base v.refs S) <;> rfl
    | some v' => cases focus (posOf (reached base v.refs S)) S (reached base v.refs S) <;> rfl
  · rfl
theorem gcT_eq (base : Nat) (T : Tm) (S : St) : gcT base T S = kGc T S (reached base T.refs S) := by
  unfold gcT kGc
  simp only
  split
  · cases Tm.unren (posOf (reached base T.refs S)) T with
    | none => cases focus (posOf (reached base T.refs S)) S (reached base T.refs S) <;> rfl
    | some v' => cases focus (posOf (reached base T.refs S)) S (reached base T.refs S) <;> rfl
  · rfl
def kFoc (E : Env) (at_ g : Nat) (ids : List Nat) : Option (List V × St) → Option (V × List (Nat × AObj))
  | some q => kRet ids at_ (E.news g) (E.call g q.1 q.2)
  | none => none
theorem kFoc_some (E : Env) (at_ g : Nat) (ids : List Nat) (args : List V) (T : St) : kFoc E at_ g ids (some (args, T)) = kRet ids at_ (E.news g) (E.call g args T) := rfl
def kIds (E : Env) (at_ : Nat) (S : St) (g : Nat) (args : List V) (ids : List Nat) : Option (V × List (Nat × AObj)) :=
  if nodupB ids && ids.all (· < at_) then kFoc E at_ g ids (kPair (V.unrenL (posOf ids) args) (focus (posOf ids) S ids)) else none
theorem callFn0_gen (E : Env) (at_ : Nat) (S : St) (g : Nat) (args : List V) : callFn0 E at_ S g args = kIds E at_ S g args (closure S 200 (V.refsL args) []) := by
  unfold callFn0 kIds
  simp only
  generalize closure S 200 (V.refsL args) [] = ids
  cases nodupB ids with
  | false => rfl
  | true =>
    simp only [if_true, Bool.true_and]
    split
    · cases V.unrenL (posOf ids) args with
      | none => cases focus (posOf ids) S ids <;> rfl
      | some as =>
        cases focus (posOf ids) S ids with
        | none => rfl
        | some T =>
          simp only [Option.bind_some, kPair, kFoc]
          cases E.call g as T <;> rfl
    · rfl

/-! ## rules -/
theorem refs_any : V.any.refs = [] := by simp only [V.refs]
theorem refs_und : V.und.refs = [] := by simp only [V.refs]
theorem refs_d (x : D) : (V.d x).refs = [] := by simp only [V.refs]
theorem refs_nil  : V.nil.refs = [] := by simp only [V.refs]
theorem refs_own (t : Nat) (xs : List D) : (V.own t xs).refs = [t] := by simp only [V.refs]
theorem refs_fsl (xs : List D) : (V.fsl xs).refs = [] := by simp only [V.refs]
theorem refs_sl (o lo n : Nat) : (V.sl o lo n).refs = [o] := by simp only [V.refs]
theorem refs_csl (o lo n : Nat) : (V.csl o lo n).refs = [o] := by simp only [V.refs]
theorem refs_ptr (o off : Nat) : (V.ptr o off).refs = [o] := by simp only [V.refs]
theorem refs_eptr (o i off : Nat) : (V.eptr o i off).refs = [o] := by simp only [V.refs]
theorem refs_cptr (x : D) (off : Nat) : (V.cptr x off).refs = [] := by simp only [V.refs]
theorem refs_mp (o : Nat) : (V.mp o).refs = [o] := by simp only [V.refs]
theorem refs_fn (f : Fn) (a c : List V) : (V.fn f a c).refs = V.refsL a ++ V.refsL c := by simp only [V.refs]
theorem refs_agg (cs : List V) : (V.agg cs).refs = V.refsL cs := by simp only [V.refs]
theorem refs_tup (cs : List V) : (V.tup cs).refs = V.refsL cs := by simp only [V.refs]
theorem refsL_nil : V.refsL [] = [] := by simp only [V.refsL]
theorem refsL_cons (x : V) (r : List V) : V.refsL (x :: r) = x.refs ++ V.refsL r := by simp only [V.refsL]
theorem orefs_box (cs : List V) : (AObj.box cs).refs = V.refsL cs := rfl
theorem orefs_tok (e f sz : Nat) : (AObj.tok e f sz).refs = [] := rfl
theorem orefs_row (e sz : Nat) (xs : List D) : (AObj.row e sz xs).refs = [] := rfl
theorem orefs_fro (e sz : Nat) (xs : List D) : (AObj.fro e sz xs).refs = [] := rfl
theorem orefs_map (kvs : List (D × D)) : (AObj.map kvs).refs = [] := rfl
theorem orefs_dead  : AObj.dead.refs = [] := rfl
theorem orefs_gone  : AObj.gone.refs = [] := rfl
theorem oren_tok (g : Nat → Nat) (e f sz : Nat) : (AObj.tok e f sz).ren g = (AObj.tok e f sz) := rfl
theorem ounren_tok (g : Nat → Option Nat) (e f sz : Nat) : (AObj.tok e f sz).unren g = some (AObj.tok e f sz) := rfl
theorem oren_row (f : Nat → Nat) (e sz : Nat) (xs : List D) : (AObj.row e sz xs).ren f = (AObj.row e sz xs) := rfl
theorem ounren_row (f : Nat → Option Nat) (e sz : Nat) (xs : List D) : (AObj.row e sz xs).unren f = some (AObj.row e sz xs) := rfl
theorem oren_fro (f : Nat → Nat) (e sz : Nat) (xs : List D) : (AObj.fro e sz xs).ren f = (AObj.fro e sz xs) := rfl
theorem ounren_fro (f : Nat → Option Nat) (e sz : Nat) (xs : List D) : (AObj.fro e sz xs).unren f = some (AObj.fro e sz xs) := rfl
theorem oren_map (f : Nat → Nat) (kvs : List (D × D)) : (AObj.map kvs).ren f = (AObj.map kvs) := rfl
theorem ounren_map (f : Nat → Option Nat) (kvs : List (D × D)) : (AObj.map kvs).unren f = some (AObj.map kvs) := rfl
theorem oren_dead (f : Nat → Nat)  : AObj.dead.ren f = AObj.dead := rfl
theorem ounren_dead (f : Nat → Option Nat)  : AObj.dead.unren f = some AObj.dead := rfl
theorem oren_gone (f : Nat → Nat)  : AObj.gone.ren f = AObj.gone := rfl
theorem ounren_gone (f : Nat → Option Nat)  : AObj.gone.unren f = some AObj.gone := rfl
theorem oren_box (f : Nat → Nat) (cs : List V) : (AObj.box cs).ren f = .box (V.renL f cs) := rfl
theorem ounren_box (f : Nat → Option Nat) (cs : List V) : (AObj.box cs).unren f = (V.unrenL f cs).map .box := rfl
theorem cells_d (x : D) : (V.d x).cells = (D.cells x).map V.d := by cases x <;> rfl
theorem dcells_agg (cs : List D) : D.cells (.agg cs) = cs := rfl
theorem dcells_int (k : IntKind) (n : Int) : D.cells (.int k n) = [(.int k n)] := rfl
theorem dcells_bool (b : Bool) : D.cells (.bool b) = [(.bool b)] := rfl
theorem dcells_str (s : List UInt8) : D.cells (.str s) = [(.str s)] := rfl
theorem dcells_sl (xs : List D) : D.cells (.sl xs) = [(.sl xs)] := rfl
theorem dcells_fn (f : Fn) : D.cells (.fn f) = [(.fn f)] := rfl
theorem dcells_nilp  : D.cells .nilp = [.nilp] := rfl
theorem dcells_nilf  : D.cells .nilf = [.nilf] := rfl
theorem dcells_nili  : D.cells .nili = [.nili] := rfl
theorem dcells_nilm  : D.cells .nilm = [.nilm] := rfl
theorem dcells_err  : D.cells .err = [.err] := rfl
theorem cells_nil  : V.nil.cells = [V.nil] := rfl
theorem cells_own (t : Nat) (xs : List D) : (V.own t xs).cells = [(V.own t xs)] := rfl
theorem cells_fsl (xs : List D) : (V.fsl xs).cells = [(V.fsl xs)] := rfl
theorem cells_sl (o lo n : Nat) : (V.sl o lo n).cells = [(V.sl o lo n)] := rfl
theorem cells_ptr (o off : Nat) : (V.ptr o off).cells = [(V.ptr o off)] := rfl
theorem cells_eptr (o i off : Nat) : (V.eptr o i off).cells = [(V.eptr o i off)] := rfl
theorem cells_cptr (x : D) (off : Nat) : (V.cptr x off).cells = [(V.cptr x off)] := rfl
theorem cells_mp (o : Nat) : (V.mp o).cells = [(V.mp o)] := rfl
theorem cells_fn (f : Fn) (a c : List V) : (V.fn f a c).cells = [.fn f a c] := rfl
theorem cells_agg (cs : List V) : (V.agg cs).cells = cs := rfl
theorem boxable_d (x : D) : (V.d x).boxable = true := rfl
theorem boxable_nil  : V.nil.boxable = true := rfl
theorem boxable_own (t : Nat) (xs : List D) : (V.own t xs).boxable = true := rfl
theorem boxable_fsl (xs : List D) : (V.fsl xs).boxable = true := rfl
theorem boxable_sl (o lo n : Nat) : (V.sl o lo n).boxable = true := rfl
theorem boxable_ptr (o off : Nat) : (V.ptr o off).boxable = true := rfl
theorem boxable_eptr (o i off : Nat) : (V.eptr o i off).boxable = true := rfl
theorem boxable_cptr (x : D) (off : Nat) : (V.cptr x off).boxable = true := rfl
theorem boxable_mp (o : Nat) : (V.mp o).boxable = true := rfl
theorem boxable_fn (f : Fn) (a c : List V) : (V.fn f a c).boxable = true := rfl
theorem boxable_agg (cs : List V) : (V.agg cs).boxable = true := rfl
theorem ren_d (f : Nat → Nat) (x : D) : (V.d x).ren f = .d x := by simp only [V.ren]
theorem ren_any (f : Nat → Nat) : V.any.ren f = .any := by simp only [V.ren]
theorem ren_und (f : Nat → Nat) : V.und.ren f = .und := by simp only [V.ren]
theorem ren_nil (f : Nat → Nat)  : V.nil.ren f = .nil := by simp only [V.ren]
theorem ren_own (f : Nat → Nat) (t : Nat) (xs : List D) : (V.own t xs).ren f = .own (f t) xs := by simp only [V.ren]
theorem ren_fsl (f : Nat → Nat) (xs : List D) : (V.fsl xs).ren f = .fsl xs := by simp only [V.ren]
theorem ren_sl (f : Nat → Nat) (o lo n : Nat) : (V.sl o lo n).ren f = .sl (f o) lo n := by simp only [V.ren]
theorem ren_csl (f : Nat → Nat) (o lo n : Nat) : (V.csl o lo n).ren f = .csl (f o) lo n := by simp only [V.ren]
theorem ren_ptr (f : Nat → Nat) (o off : Nat) : (V.ptr o off).ren f = .ptr (f o) off := by simp only [V.ren]
theorem ren_eptr (f : Nat → Nat) (o i off : Nat) : (V.eptr o i off).ren f = .eptr (f o) i off := by simp only [V.ren]
theorem ren_cptr (f : Nat → Nat) (x : D) (off : Nat) : (V.cptr x off).ren f = .cptr x off := by simp only [V.ren]
theorem ren_mp (f : Nat → Nat) (o : Nat) : (V.mp o).ren f = .mp (f o) := by simp only [V.ren]
theorem ren_fn (f : Nat → Nat) (g : Fn) (a c : List V) : (V.fn g a c).ren f = .fn g (V.renL f a) (V.renL f c) := by simp only [V.ren]
theorem ren_agg (f : Nat → Nat) (cs : List V) : (V.agg cs).ren f = .agg (V.renL f cs) := by simp only [V.ren]
theorem ren_tup (f : Nat → Nat) (cs : List V) : (V.tup cs).ren f = .tup (V.renL f cs) := by simp only [V.ren]
theorem renL_nil (f : Nat → Nat) : V.renL f [] = [] := by simp only [V.renL]
theorem renL_cons (f : Nat → Nat) (x : V) (r : List V) : V.renL f (x :: r) = x.ren f :: V.renL f r := by simp only [V.renL]
theorem unren_d (f : Nat → Option Nat) (x : D) : (V.d x).unren f = some (.d x) := by simp only [V.unren]
theorem unren_any (f : Nat → Option Nat) : V.any.unren f = some .any := by simp only [V.unren]
theorem unren_und (f : Nat → Option Nat) : V.und.unren f = some .und := by simp only [V.unren]
theorem unren_nil (f : Nat → Option Nat)  : V.nil.unren f = some .nil := by simp only [V.unren]
theorem unren_own (f : Nat → Option Nat) (t : Nat) (xs : List D) : (V.own t xs).unren f = (f t).map fun t => .own t xs := by simp only [V.unren]
theorem unren_fsl (f : Nat → Option Nat) (xs : List D) : (V.fsl xs).unren f = some (.fsl xs) := by simp only [V.unren]
theorem unren_sl (f : Nat → Option Nat) (o lo n : Nat) : (V.sl o lo n).unren f = (f o).map fun o => .sl o lo n := by simp only [V.unren]
theorem unren_csl (f : Nat → Option Nat) (o lo n : Nat) : (V.csl o lo n).unren f = (f o).map fun o => .csl o lo n := by simp only [V.unren]
theorem unren_ptr (f : Nat → Option Nat) (o off : Nat) : (V.ptr o off).unren f = (f o).map fun o => .ptr o off := by simp only [V.unren]
theorem unren_eptr (f : Nat → Option Nat) (o i off : Nat) : (V.eptr o i off).unren f = (f o).map fun o => .eptr o i off := by simp only [V.unren]
theorem unren_cptr (f : Nat → Option Nat) (x : D) (off : Nat) : (V.cptr x off).unren f = some (.cptr x off) := by simp only [V.unren]
theorem unren_mp (f : Nat → Option Nat) (o : Nat) : (V.mp o).unren f = (f o).map fun o => .mp o := by simp only [V.unren]
theorem unren_fn (f : Nat → Option Nat) (g : Fn) (a c : List V) : (V.fn g a c).unren f = (V.unrenL f a).bind fun a => (V.unrenL f c).map fun c => .fn g a c := by simp only [V.unren]
theorem unren_agg (f : Nat → Option Nat) (cs : List V) : (V.agg cs).unren f = (V.unrenL f cs).map .agg := by simp only [V.unren]
theorem unren_tup (f : Nat → Option Nat) (cs : List V) : (V.tup cs).unren f = (V.unrenL f cs).map .tup := by simp only [V.unren]
theorem unrenL_nil (f : Nat → Option Nat) : V.unrenL f [] = some [] := by simp only [V.unrenL]
theorem freeze_d (x : D) : (V.d x).freeze = .d x := by simp only [V.freeze]
theorem freeze_any : V.any.freeze = .any := by simp only [V.freeze]
theorem freeze_und : V.und.freeze = .und := by simp only [V.freeze]
theorem freeze_nil  : V.nil.freeze = .d (.sl []) := by simp only [V.freeze]
theorem freeze_own (t : Nat) (xs : List D) : (V.own t xs).freeze = .d (.sl xs) := by simp only [V.freeze]
theorem freeze_fsl (xs : List D) : (V.fsl xs).freeze = .d (.sl xs) := by simp only [V.freeze]
theorem freeze_sl (o lo n : Nat) : (V.sl o lo n).freeze = .sl o lo n := by simp only [V.freeze]
theorem freeze_csl (o lo n : Nat) : (V.csl o lo n).freeze = .csl o lo n := by simp only [V.freeze]
theorem freeze_ptr (o off : Nat) : (V.ptr o off).freeze = .ptr o off := by simp only [V.freeze]
theorem freeze_eptr (o i off : Nat) : (V.eptr o i off).freeze = .eptr o i off := by simp only [V.freeze]
theorem freeze_cptr (x : D) (off : Nat) : (V.cptr x off).freeze = .cptr x off := by simp only [V.freeze]
theorem freeze_mp (o : Nat) : (V.mp o).freeze = .mp o := by simp only [V.freeze]
theorem freeze_fn (f : Fn) (a c : List V) : (V.fn f a c).freeze = .fn f a c := by simp only [V.freeze]
theorem freeze_agg (cs : List V) : (V.agg cs).freeze = mkAgg (V.freezeL cs) := by simp only [V.freeze]
theorem freeze_tup (cs : List V) : (V.tup cs).freeze = .tup (V.freezeL cs) := by simp only [V.freeze]
theorem freezeL_nil : V.freezeL [] = [] := by simp only [V.freezeL]
theorem freezeL_cons (x : V) (r : List V) : V.freezeL (x :: r) = x.freeze :: V.freezeL r := by simp only [V.freezeL]
/-- a piece of a row, looked at -/
def lookR (o lo n : Nat) : Option AObj → V
  | some (.fro _ _ xs) => .d (.sl ((xs.drop lo).take n))
  | _ => .sl o lo n
theorem look_sl (S : St) (o lo n : Nat) : (V.sl o lo n).look S = lookR o lo n S[o]? := by
  simp only [V.look]
  cases S[o]? with
  | none => rfl
  | some ob => cases ob <;> rfl
theorem lookR_fro (o lo n e sz : Nat) (xs : List D) : lookR o lo n (some (.fro e sz xs)) = .d (.sl ((xs.drop lo).take n)) := rfl
theorem lookR_row (o lo n e sz : Nat) (xs : List D) : lookR o lo n (some (.row e sz xs)) = .sl o lo n := rfl
theorem look_d (S : St) (x : D) : (V.d x).look S = .d x := by simp only [V.look]
theorem look_any (S : St) : V.any.look S = .any := by simp only [V.look]
theorem look_und (S : St) : V.und.look S = .und := by simp only [V.look]
theorem look_nil (S : St)  : V.nil.look S = V.nil := by simp only [V.look]
theorem look_own (S : St) (t : Nat) (xs : List D) : (V.own t xs).look S = (V.own t xs) := by simp only [V.look]
theorem look_fsl (S : St) (xs : List D) : (V.fsl xs).look S = (V.fsl xs) := by simp only [V.look]
theorem look_ptr (S : St) (o off : Nat) : (V.ptr o off).look S = (V.ptr o off) := by simp only [V.look]
theorem look_csl (S : St) (o lo n : Nat) : (V.csl o lo n).look S = .csl o lo n := by simp only [V.look]
theorem look_eptr (S : St) (o i off : Nat) : (V.eptr o i off).look S = (V.eptr o i off) := by simp only [V.look]
theorem look_cptr (S : St) (x : D) (off : Nat) : (V.cptr x off).look S = (V.cptr x off) := by simp only [V.look]
theorem look_mp (S : St) (o : Nat) : (V.mp o).look S = (V.mp o) := by simp only [V.look]
theorem look_fn (S : St) (f : Fn) (a c : List V) : (V.fn f a c).look S = .fn f a c := by simp only [V.look]
theorem look_agg (S : St) (cs : List V) : (V.agg cs).look S = mkAgg (V.lookL S cs) := by simp only [V.look]
theorem look_tup (S : St) (cs : List V) : (V.tup cs).look S = .tup (V.lookL S cs) := by simp only [V.look]
theorem lookL_nil (S : St) : V.lookL S [] = [] := by simp only [V.lookL]
theorem lookL_cons (S : St) (x : V) (r : List V) : V.lookL S (x :: r) = x.look S :: V.lookL S r := by simp only [V.lookL]
theorem lookL_map (S : St) (l : List D) : V.lookL S (l.map V.d) = l.map V.d := by
  induction l with
  | nil => rfl
  | cons x r ih => simp [V.lookL, V.look, ih]
theorem freezeL_map (l : List D) : V.freezeL (l.map V.d) = l.map V.d := by
  induction l with
  | nil => rfl
  | cons x r ih => simp [V.freezeL, V.freeze, ih]
theorem refs_emp : V.emp.refs = [] := by simp only [V.refs]
theorem cells_emp : V.emp.cells = [V.emp] := rfl
theorem boxable_emp : V.emp.boxable = true := rfl
theorem ren_emp (f : Nat → Nat) : V.emp.ren f = .emp := by simp only [V.ren]
theorem unren_emp (f : Nat → Option Nat) : V.emp.unren f = some .emp := by simp only [V.unren]
theorem freeze_emp : V.emp.freeze = .d (.sl []) := by simp only [V.freeze]
theorem look_emp (S : St) : V.emp.look S = .emp := by simp only [V.look]
def frzC (o : Nat) (l : List (Nat × AObj)) : Option AObj → List (Nat × AObj)
  | some (.row e sz xs) => (o, .fro e sz xs) :: l
  | _ => l
theorem frzW_nil (S : St) : frzW S [] = [] := rfl
theorem frzW_cons (S : St) (o : Nat) (r : List Nat) : frzW S (o :: r) = frzC o (frzW S r) S[o]? := by
  simp only [frzW]
  cases S[o]? with
  | none => rfl
  | some ob => cases ob <;> rfl
theorem frzC_row (o : Nat) (l : List (Nat × AObj)) (e sz : Nat) (xs : List D) : frzC o l (some (.row e sz xs)) = (o, .fro e sz xs) :: l := rfl
theorem frzC_fro (o : Nat) (l : List (Nat × AObj)) (e sz : Nat) (xs : List D) : frzC o l (some (.fro e sz xs)) = l := rfl
theorem frzC_box (o : Nat) (l : List (Nat × AObj)) (cs : List V) : frzC o l (some (.box cs)) = l := rfl
theorem frzC_tok (o : Nat) (l : List (Nat × AObj)) (e f sz : Nat) : frzC o l (some (.tok e f sz)) = l := rfl
theorem frzC_map (o : Nat) (l : List (Nat × AObj)) (kvs : List (D × D)) : frzC o l (some (.map kvs)) = l := rfl
theorem frzC_dead (o : Nat) (l : List (Nat × AObj)) : frzC o l (some .dead) = l := rfl
theorem frzC_gone (o : Nat) (l : List (Nat × AObj)) : frzC o l (some .gone) = l := rfl
theorem rowAt_eq (S : St) (o : Nat) : rowAt S o = (S[o]?).bind AObj.rowOf := rfl
theorem rowOf_row (e sz : Nat) (xs : List D) : (AObj.row e sz xs).rowOf = some (e, sz, xs) := rfl
theorem rowOf_fro (e sz : Nat) (xs : List D) : (AObj.fro e sz xs).rowOf = some (e, sz, xs) := rfl
theorem cast_1 (base : Nat) (v : V) (S : St) : castS 1 base v S = ((v.look (applyW S (frzW S v.refs))).freeze, applyW S (frzW S v.refs)) := rfl
theorem cast_0 (base : Nat) (v : V) (S : St) : castS 0 base v S = (v, S) := rfl
theorem cast_2 (base : Nat) (v : V) (S : St) : castS 2 base v S = castM base v S := rfl
def moveC (k : Nat) (v : V) (S : St) : Option AObj → V × St
  | some (.row e sz xs) => (v.ren (swap k S.length), (S.map (AObj.ren (swap k S.length))).set k .gone ++ [.row e sz xs])
  | some (.fro _ _ _) => (v, S.set k .gone)
  | _ => (v, S)
theorem castM_0 (v : V) (S : St) : castM 0 v S = (v, S) := rfl
theorem castM_1 (k : Nat) (v : V) (S : St) : castM (k + 1) v S = moveC k (castM k v S).1 (castM k v S).2 (castM k v S).2[k]? := rfl
theorem moveC_row (k : Nat) (v : V) (S : St) (e sz : Nat) (xs : List D) : moveC k v S (some (.row e sz xs)) = (v.ren (swap k S.length), (S.map (AObj.ren (swap k S.length))).set k .gone ++ [.row e sz xs]) := rfl
theorem moveC_fro (k : Nat) (v : V) (S : St) (e sz : Nat) (xs : List D) : moveC k v S (some (.fro e sz xs)) = (v, S.set k .gone) := rfl
theorem moveC_box (k : Nat) (v : V) (S : St) (cs : List V) : moveC k v S (some (.box cs)) = (v, S) := rfl
theorem moveC_gone (k : Nat) (v : V) (S : St) : moveC k v S (some .gone) = (v, S) := rfl
theorem moveC_tok (k : Nat) (v : V) (S : St) (e f sz : Nat) : moveC k v S (some (.tok e f sz)) = (v, S) := rfl
theorem moveC_map (k : Nat) (v : V) (S : St) (kvs : List (D × D)) : moveC k v S (some (.map kvs)) = (v, S) := rfl
theorem swap_eq (k n o : Nat) : swap k n o = if o = k then n else o := rfl
def prB (r : List (Nat × Nat × Nat × Nat)) (T : Tm) (S : St) (o j e sz : Nat) (cs : List V) : Option V → St
  | some .nil => promoteB r T (S.set o (.box (cs.set j (.sl S.length 0 0))) ++ [.row e sz []])
  | _ => promoteB r T S
theorem prB_nil (r : List (Nat × Nat × Nat × Nat)) (T : Tm) (S : St) (o j e sz : Nat) (cs : List V) : prB r T S o j e sz cs (some .nil) = promoteB r T (S.set o (.box (cs.set j (.sl S.length 0 0))) ++ [.row e sz []]) := rfl
theorem prB_sl (r : List (Nat × Nat × Nat × Nat)) (T : Tm) (S : St) (o j e sz : Nat) (cs : List V) (a b c : Nat) : prB r T S o j e sz cs (some (.sl a b c)) = promoteB r T S := rfl
def prO (r : List (Nat × Nat × Nat × Nat)) (T : Tm) (S : St) (o j e sz : Nat) : Option AObj → St
  | some (.box cs) => prB r T S o j e sz cs cs[j]?
  | _ => promoteB r T S
theorem prO_box (r : List (Nat × Nat × Nat × Nat)) (T : Tm) (S : St) (o j e sz : Nat) (cs : List V) : prO r T S o j e sz (some (.box cs)) = prB r T S o j e sz cs cs[j]? := rfl
def prT (r : List (Nat × Nat × Nat × Nat)) (T : Tm) (S : St) (off e sz : Nat) : V → St
  | .ptr o k => prO r T S o (k + off) e sz S[o]?
  | _ => promoteB r T S
theorem prT_ptr (r : List (Nat × Nat × Nat × Nat)) (T : Tm) (S : St) (off e sz o k : Nat) : prT r T S off e sz (.ptr o k) = prO r T S o (k + off) e sz S[o]? := rfl
theorem promoteB_nil (T : Tm) (S : St) : promoteB [] T S = S := rfl
theorem promoteB_cons (i off e sz : Nat) (r : List (Nat × Nat × Nat × Nat)) (T : Tm) (S : St) : promoteB ((i, off, e, sz) :: r) T S = prT r T S off e sz (T.get i) := by
  simp only [promoteB]
  cases T.get i with
  | ptr o k =>
    simp only [prT]
    cases S[o]? with
    | none => rfl
    | some ob =>
      cases ob with
      | box cs =>
        simp only [prO]
        cases cs[k + off]? with
        | none => rfl
        | some x => cases x <;> rfl
      | _ => rfl
  | _ => rfl

/-- a call, by how it takes what it is handed -/
def lent (S : St) (args : List V) : List V := V.freezeL (V.lookL (applyW S (frzW S (V.refsL args))) args)
def kBor : Option (V × St) → Option (V × List (Nat × AObj))
  | some r => if r.2.isEmpty then (if r.1.scal then some (r.1, []) else none) else none
  | none => none
def kFz (W : List (Nat × AObj)) : Option (V × List (Nat × AObj)) → Option (V × List (Nat × AObj))
  | some r => some (r.1, W ++ r.2)
  | none => none
def kBorA (E : Env) (g : Nat) (as : List V) : Option (V × List (Nat × AObj)) := if (V.refsL as).isEmpty then kBor (E.call g as []) else none
def callM (E : Env) (at_ : Nat) (S : St) (g : Nat) (args : List V) : Nat → Option (V × List (Nat × AObj))
  | 0 => callFn0 E at_ S g (V.freezeL args)
  | 1 => kBorA E g (lent S args)
  | 3 => kRo (closure S 200 (V.refsL (V.freezeL args)) []) S (callFn0 E at_ S g (V.freezeL args))
  | _ => kFz (frzW S (V.refsL args)) (callFn0 E at_ (applyW S (frzW S (V.refsL args))) g (lent S args))
theorem callFn_eq (E : Env) (at_ : Nat) (S : St) (g : Nat) (args : List V) : callFn E at_ S g args = callM E at_ S g args (E.mode g) := by
  unfold callFn
  generalize E.mode g = m
  match m with
  | 0 => rfl
  | 1 =>
    simp only [callM, kBorA, lent, List.isEmpty_iff]
    split
    · cases E.call g (V.freezeL (V.lookL (applyW S (frzW S (V.refsL args))) args)) [] with
      | none => rfl
      | some r => simp [kBor]
    · rfl
  | 2 =>
    simp only [callM, lent]
    cases callFn0 E at_ (applyW S (frzW S (V.refsL args))) g (V.freezeL (V.lookL (applyW S (frzW S (V.refsL args))) args)) <;> rfl
  | 3 => rfl
  | m + 4 =>
    simp only [callM, lent]
    cases callFn0 E at_ (applyW S (frzW S (V.refsL args))) g (V.freezeL (V.lookL (applyW S (frzW S (V.refsL args))) args)) <;> rfl
theorem callM_0 (E : Env) (at_ : Nat) (S : St) (g : Nat) (args : List V) : callM E at_ S g args 0 = callFn0 E at_ S g (V.freezeL args) := rfl
theorem callM_1 (E : Env) (at_ : Nat) (S : St) (g : Nat) (args : List V) : callM E at_ S g args 1 = kBorA E g (lent S args) := rfl
theorem callM_2 (E : Env) (at_ : Nat) (S : St) (g : Nat) (args : List V) : callM E at_ S g args 2 = kFz (frzW S (V.refsL args)) (callFn0 E at_ (applyW S (frzW S (V.refsL args))) g (lent S args)) := rfl
theorem callM_3 (E : Env) (at_ : Nat) (S : St) (g : Nat) (args : List V) : callM E at_ S g args 3 = kRo (closure S 200 (V.refsL (V.freezeL args)) []) S (callFn0 E at_ S g (V.freezeL args)) := rfl
theorem kRo_unch_nil (ids : List Nat) (S : St) : unch ids S [] ↔ True := Iff.rfl
theorem kRo_unch_cons (ids : List Nat) (S : St) (p : Nat × AObj) (r : List (Nat × AObj)) : unch ids S (p :: r) ↔ (ids.contains p.1 = true ∧ S[p.1]? = some p.2) ∧ unch ids S r := Iff.rfl
open Classical in
theorem kRo_some (ids : List Nat) (S : St) (r : V × List (Nat × AObj)) : kRo ids S (some r) = if unch ids S r.2 then some (r.1, []) else none := rfl
theorem kRo_ite (ids : List Nat) (S : St) (c : Prop) [Decidable c] (x y : Option (V × List (Nat × AObj))) : kRo ids S (if c then x else y) = if c then kRo ids S x else kRo ids S y := by split <;> rfl
theorem kRo_none (ids : List Nat) (S : St) : kRo ids S none = none := rfl
theorem kRo_eq {α : Type} (a : α) : (a = a) ↔ True := ⟨fun _ => trivial, fun _ => rfl⟩
theorem kBor_some (r : V × St) : kBor (some r) = if r.2.isEmpty then (if r.1.scal then some (r.1, []) else none) else none := rfl
theorem kBor_ite (c : Prop) [Decidable c] (x y : Option (V × St)) : kBor (if c then x else y) = if c then kBor x else kBor y := by split <;> rfl
theorem kFz_some (W : List (Nat × AObj)) (r : V × List (Nat × AObj)) : kFz W (some r) = some (r.1, W ++ r.2) := rfl
theorem kFz_ite (W : List (Nat × AObj)) (c : Prop) [Decidable c] (x y : Option (V × List (Nat × AObj))) : kFz W (if c then x else y) = if c then kFz W x else kFz W y := by split <;> rfl
theorem beq_dec (a b : List UInt8) : (a == b) = decide (a = b) := by
  by_cases h : a = b
  · subst h; simp
  · simp [h]
theorem str_eql (a b : List UInt8) : strOp .eql a b = some (.bool (decide (a = b))) := by simp only [strOp, beq_dec]
theorem str_neq (a b : List UInt8) : strOp .neq a b = some (.bool (!decide (a = b))) := by simp only [strOp, beq_dec]
theorem str_lss (a b : List UInt8) : strOp .lss a b = some (.bool (Op.bytesLess a b)) := rfl
theorem str_leq (a b : List UInt8) : strOp .leq a b = some (.bool (Op.bytesLess a b || decide (a = b))) := by simp only [strOp, beq_dec]
theorem str_gtr (a b : List UInt8) : strOp .gtr a b = some (.bool (!(Op.bytesLess a b || decide (a = b)))) := by simp only [strOp, beq_dec]
theorem str_geq (a b : List UInt8) : strOp .geq a b = some (.bool (!Op.bytesLess a b)) := rfl
theorem str_add (a b : List UInt8) : strOp .add a b = if a.length + b.length ≤ 9223372036854775807 then some (.str (a ++ b)) else none := rfl
theorem eqS_str (a b : List UInt8) : eqS (.str a) (.str b) = some (decide (a = b)) := by simp only [eqS, beq_dec]
theorem eqS_int (k : IntKind) (a b : Int) : eqS (.int k a) (.int k b) = some (decide (a = b)) := by simp only [eqS, if_true]; rfl
theorem eqS_bool (a b : Bool) : eqS (.bool a) (.bool b) = some (a == b) := rfl
def boxesOf : List (Nat × List (Nat × Nat × Nat × Nat)) → Nat → List (Nat × Nat × Nat × Nat)
  | [], _ => []
  | (g, n) :: r, f => if g = f then n else boxesOf r f
def modeOf : List (Nat × Nat) → Nat → Nat
  | [], _ => 0
  | (g, n) :: r, f => if g = f then n else modeOf r f
theorem bd_data (o : Nat) : Region.binds .any ⟨o, .data⟩ = true := rfl
theorem bd_chain (o : Nat) : Region.binds .any ⟨o, .chain⟩ = true := rfl
theorem bd_guard (o : Nat) : Region.binds .any ⟨o, .guard⟩ = true := rfl
theorem bd_phase (o : Nat) : Region.binds .any ⟨o, .phase⟩ = true := rfl
theorem bd_text (o : Nat) (d) : Region.binds .any ⟨o, .textOnly d⟩ = false := rfl
theorem bd_gc (o : Nat) (d) : Region.binds .any ⟨o, .gcOnly d⟩ = false := rfl
def ruB := And.intro bd_data (And.intro bd_chain (And.intro bd_guard (And.intro bd_phase (And.intro bd_text bd_gc))))
theorem prB_d (r : List (Nat × Nat × Nat × Nat)) (T : Tm) (S : St) (o j e sz : Nat) (cs : List V) (x : D) : prB r T S o j e sz cs (some (.d x)) = promoteB r T S := rfl
theorem prB_fsl (r : List (Nat × Nat × Nat × Nat)) (T : Tm) (S : St) (o j e sz : Nat) (cs : List V) (x : List D) : prB r T S o j e sz cs (some (.fsl x)) = promoteB r T S := rfl
theorem prB_emp (r : List (Nat × Nat × Nat × Nat)) (T : Tm) (S : St) (o j e sz : Nat) (cs : List V) : prB r T S o j e sz cs (some .emp) = promoteB r T S := rfl
theorem prB_own (r : List (Nat × Nat × Nat × Nat)) (T : Tm) (S : St) (o j e sz : Nat) (cs : List V) (t : Nat) (x : List D) : prB r T S o j e sz cs (some (.own t x)) = promoteB r T S := rfl
def ruP := And.intro @prB_d (And.intro @prB_fsl (And.intro @prB_emp @prB_own))
end
end Go.Wm
