/-
  A part of the proof: an abstract run of the program, shown to be what the model does, and what it comes to.
-/
import Derived.Test.YtfopbbeieegfcaaVmY
set_option linter.unusedVariables false
set_option linter.unusedSimpArgs false
set_option linter.unusedSectionVars false
set_option linter.unnecessarySimpa false
namespace Go.Vm
open Go

/-! ## values that refer to no object -/
mutual
theorem V.unren_none (f : Nat → Option Nat) : ∀ (v : V), v.refs = [] → v.unren f = some v
  | .any, _ => rfl
  | .d x, _ => rfl
  | .own t nn sz xs, h => by simp [V.refs] at h
  | .fsl nn sz xs, _ => rfl
  | .ptr o off, h => by simp [V.refs] at h
  | .cptr sz x off, _ => rfl
  | .fn g a c, h => by
    simp only [V.refs, List.append_eq_nil_iff] at h
    simp only [V.unren, V.unrenL_none f a h.1, V.unrenL_none f c h.2, Option.bind_some, Option.map_some]
  | .agg cs, h => by
    simp only [V.refs] at h
    simp only [V.unren, V.unrenL_none f cs h, Option.map_some]
  | .tup cs, h => by
    simp only [V.refs] at h
    simp only [V.unren, V.unrenL_none f cs h, Option.map_some]
theorem V.unrenL_none (f : Nat → Option Nat) : ∀ (l : List V), V.refsL l = [] → V.unrenL f l = some l
  | [], _ => rfl
  | x :: r, h => by
    simp only [V.refsL, List.append_eq_nil_iff] at h
    simp only [V.unrenL, V.unren_none f x h.1, V.unrenL_none f r h.2, Option.bind_some, Option.map_some]
end
mutual
theorem V.ren_none (f : Nat → Nat) : ∀ (v : V), v.refs = [] → v.ren f = v
  | .any, _ => rfl
  | .d x, _ => rfl
  | .own t nn sz xs, h => by simp [V.refs] at h
  | .fsl nn sz xs, _ => rfl
  | .ptr o off, h => by simp [V.refs] at h
  | .cptr sz x off, _ => rfl
  | .fn g a c, h => by
    simp only [V.refs, List.append_eq_nil_iff] at h
    simp only [V.ren, V.renL_none f a h.1, V.renL_none f c h.2]
  | .agg cs, h => by
    simp only [V.refs] at h
    simp only [V.ren, V.renL_none f cs h]
  | .tup cs, h => by
    simp only [V.refs] at h
    simp only [V.ren, V.renL_none f cs h]
theorem V.renL_none (f : Nat → Nat) : ∀ (l : List V), V.refsL l = [] → V.renL f l = l
  | [], _ => rfl
  | x :: r, h => by
    simp only [V.refsL, List.append_eq_nil_iff] at h
    simp only [V.renL, V.ren_none f x h.1, V.renL_none f r h.2]
end
theorem refsL_map (l : List D) : V.refsL (l.map V.d) = [] := by
  induction l with
  | nil => rfl
  | cons x r ih => simp [V.refsL, V.refs, ih]
theorem unrenL_map (f : Nat → Option Nat) (l : List D) : V.unrenL f (l.map V.d) = some (l.map V.d) := V.unrenL_none f _ (refsL_map l)
theorem renL_map (f : Nat → Nat) (l : List D) : V.renL f (l.map V.d) = l.map V.d := V.renL_none f _ (refsL_map l)

/-- no object of the list refers to one -/
def plain : List AObj → Bool
  | [] => true
  | ob :: r => ob.refs.isEmpty && plain r
theorem plain_get : ∀ {S : St} {i : Nat} {ob : AObj}, plain S = true → S[i]? = some ob → ob.refs = []
  | [], _, _, _, h => by simp at h
  | x :: r, 0, ob, hp, h => by
    simp only [plain, Bool.and_eq_true, List.isEmpty_iff] at hp
    simp at h; subst h; exact hp.1
  | x :: r, i + 1, ob, hp, h => by
    simp only [plain, Bool.and_eq_true] at hp
    simp at h; exact plain_get hp.2 h
theorem reached_plain {base : Nat} {S : St} (hb : base ≤ 200) (hp : plain (S.take base) = true) : reached base [] S = List.range base := by
  unfold reached
  have h1 : ∀ n (l acc : List Nat), (∀ x ∈ l, x < base) → l.length ≤ n → (acc ++ l).Nodup → closure S n l acc = acc ++ l := by
    intro n
    induction n with
    | zero => intro l acc _ h _; cases l with
      | nil => simp [closure]
      | cons x l => simp at h
    | succ n ih =>
      intro l acc hlt h hn
      cases l with
      | nil => simp [closure]
      | cons x l =>
        have hx : x ∉ acc := by
          intro hx
          have := (List.nodup_append.1 hn).2.2 x hx x (by simp)
          exact this rfl
        have hr : ((S[x]?).map AObj.refs).getD [] = [] := by
          cases hS : S[x]? with
          | none => rfl
          | some ob =>
            have : (S.take base)[x]? = some ob := by rw [List.getElem?_take_of_lt (hlt x (by simp))]; exact hS
            simp [plain_get hp this]
        simp only [closure, List.contains_eq_mem, hx, decide_false, Bool.false_eq_true, if_false, hr, List.nil_append]
        rw [ih l (acc ++ [x]) (fun y hy => hlt y (by simp [hy])) (by simp at h; omega) (by simpa using hn)]
        simp
  rw [h1 200 _ [] (fun x hx => by simpa using hx) (by simpa using hb) (by simpa using List.nodup_range)]
  have : List.filter (fun i => !decide (i < base)) ([] ++ (List.range base ++ [])) = [] := by
    rw [List.filter_eq_nil_iff]
    intro x hx
    simp at hx
    simp [hx]
  rw [this, List.append_nil]
theorem focus_plain {S : St} {base : Nat} (f : Nat → Option Nat) (hb : base ≤ S.length) (hp : plain (S.take base) = true) : ∀ (k s : Nat), s + k = base → focus f S (List.range' s k) = some ((S.take base).drop s)
  | 0, s, h => by
    have : s = base := by omega
    subst this
    simp [focus]
  | k + 1, s, h => by
    have hs : s < S.length := by omega
    have e : S[s]? = some S[s] := by simp [hs]
    have e2 : (S.take base)[s]? = some S[s] := by rw [List.getElem?_take_of_lt (by omega)]; exact e
    have hr := plain_get hp e2
    have hu : (S[s]).unren f = some S[s] := by
      cases hob : S[s] with
      | box cs => rw [hob] at hr; simp only [AObj.refs] at hr; simp only [AObj.unren, V.unrenL_none f cs hr, Option.map_some]
      | tok a b c => rfl
      | dead => rfl
    simp only [List.range'_succ, focus, e, hu, Option.bind_some, focus_plain f hb hp k (s + 1) (by omega), Option.map_some]
    congr 1
    have hlt : s < (S.take base).length := by simp; omega
    rw [List.drop_eq_getElem_cons hlt]
    simp
theorem nodupB_of_nodup : ∀ {l : List Nat}, l.Nodup → nodupB l = true
  | [], _ => rfl
  | i :: r, h => by
    have := List.nodup_cons.1 h
    simp [nodupB, this.1, nodupB_of_nodup this.2]
theorem finish_plain {base : Nat} {v : V} {S : St} (h1 : v.refs = []) (hb : (decide (base ≤ 200) && decide (base ≤ S.length)) = true) (hp : plain (S.take base) = true) : finish base v S = some (v, S.take base) := by
  simp only [Bool.and_eq_true, decide_eq_true_eq] at hb
  unfold finish
  rw [h1, reached_plain hb.1 hp]
  rw [if_pos (nodupB_of_nodup List.nodup_range)]
  simp only [V.unren_none _ v h1, Option.bind_some, List.range_eq_range', focus_plain _ hb.2 hp base 0 (by omega), List.drop_zero, Option.map_some]
theorem tm_unren_none (f : Nat → Option Nat) : ∀ (T : Tm), Tm.refs T = [] → Tm.unren f T = some T
  | [], _ => rfl
  | (i, v) :: r, h => by
    simp only [Tm.refs, List.append_eq_nil_iff] at h
    simp only [Tm.unren, V.unren_none f v h.1, tm_unren_none f r h.2, Option.bind_some, Option.map_some]
theorem gcT_plain {base : Nat} {T : Tm} {S : St} (h1 : T.refs = []) (hb : (decide (base ≤ 200) && decide (base ≤ S.length)) = true) (hp : plain (S.take base) = true) : gcT base T S = some (T, S.take base) := by
  simp only [Bool.and_eq_true, decide_eq_true_eq] at hb
  unfold gcT
  rw [h1, reached_plain hb.1 hp]
  rw [if_pos (nodupB_of_nodup List.nodup_range)]
  simp only [tm_unren_none _ T h1, Option.bind_some, List.range_eq_range', focus_plain _ hb.2 hp base 0 (by omega), List.drop_zero, Option.map_some]
theorem callFn0_plain (E : Env) (at_ : Nat) (S : St) (g : Nat) (args : List V) (h : V.refsL args = []) : callFn0 E at_ S g args = kRet [] at_ (E.news g) (E.call g args []) := by
  rw [callFn0_data E at_ S g args h, V.unrenL_none _ _ h]
  rfl
/-- a copy, that no rule looks into -/
def callG (E : Env) (at_ : Nat) (S : St) (g : Nat) (args : List V) : Option (V × List (Nat × AObj)) := callFn0 E at_ S g args
def kPtr (E : Env) (at_ : Nat) (S : St) (g : Nat) (o off : Nat) (rest : List V) : Option AObj → Option (V × List (Nat × AObj))
  | some (.box cs) => if (V.refsL cs).isEmpty then kRet [o] at_ (E.news g) (E.call g (.ptr 0 off :: rest) [.box cs]) else callG E at_ S g (.ptr o off :: rest)
  | _ => callG E at_ S g (.ptr o off :: rest)
theorem kPtr_box (E : Env) (at_ : Nat) (S : St) (g : Nat) (o off : Nat) (rest : List V) (cs : List V) : kPtr E at_ S g o off rest (some (.box cs)) =
    if (V.refsL cs).isEmpty then kRet [o] at_ (E.news g) (E.call g (.ptr 0 off :: rest) [.box cs]) else callG E at_ S g (.ptr o off :: rest) := rfl
/-- a call that is handed one pointer first, and data behind it -/
theorem callFn0_ptr (E : Env) (at_ : Nat) (S : St) (g : Nat) (o off : Nat) (rest : List V) (h : V.refsL rest = []) : callFn0 E at_ S g (.ptr o off :: rest) =
    if o < at_ then kPtr E at_ S g o off rest S[o]? else callG E at_ S g (.ptr o off :: rest) := by
  split
  · rename_i ho
    cases hS : S[o]? with
    | none => rfl
    | some ob =>
      cases ob with
      | tok e f sz => rfl
      | dead => rfl
      | box cs =>
        simp only [kPtr]
        split
        · rename_i hcs
          rw [List.isEmpty_iff] at hcs
          have hcl : closure S 200 (V.refsL (.ptr o off :: rest)) [] = [o] := by
            simp [V.refsL, V.refs, h, closure, hS, AObj.refs, hcs]
          unfold callFn0
          simp only [hcl]
          simp only [nodupB, List.contains_nil, Bool.not_false, Bool.and_true, if_true, List.all_cons, List.all_nil, decide_eq_true_eq, ho, V.unrenL, V.unren, posOf, Option.map_some, Option.bind_some, V.unrenL_none _ _ h, focus, hS, AObj.unren,
            V.unrenL_none _ _ hcs]
          cases E.call g (.ptr 0 off :: rest) [.box cs] with
          | none => rfl
          | some r => rfl
        · rfl
  · rfl
theorem wrap_i64 {n : Int} (h1 : -9223372036854775808 ≤ n) (h2 : n ≤ 9223372036854775807) : IntKind.i64.wrap n = n := by
  simp only [IntKind.wrap, IntKind.bits, IntKind.signed]
  simp
  split <;> omega
theorem wrap_u64 {n : Int} (h1 : 0 ≤ n) (h2 : n ≤ 18446744073709551615) : IntKind.u64.wrap n = n := by
  simp only [IntKind.wrap, IntKind.bits, IntKind.signed]
  simp
  omega

/-! ### the objects that one is handed, that one leaves: rules -/
def unrenO (f : Nat → Option Nat) : Option AObj → Option AObj
  | some ob => ob.unren f
  | none => none
def refsOb : Option AObj → List Nat
  | some ob => ob.refs
  | none => []
theorem unrenO_some (f : Nat → Option Nat) (ob : AObj) : unrenO f (some ob) = ob.unren f := rfl
theorem refsOb_some (ob : AObj) : refsOb (some ob) = ob.refs := rfl
theorem focus_nil (f : Nat → Option Nat) (S : St) : focus f S [] = some [] := rfl
theorem focus_cons (f : Nat → Option Nat) (S : St) (i : Nat) (r : List Nat) : focus f S (i :: r) = consO (unrenO f S[i]?) (focus f S r) := by
  simp only [focus]
  cases S[i]? with
  | none => rfl
  | some ob =>
    simp only [Option.bind_some, unrenO]
    cases ob.unren f with
    | none => rfl
    | some ob' => cases focus f S r <;> rfl
theorem closure_nil (S : St) (n : Nat) (acc : List Nat) : closure S n [] acc = acc := by cases n <;> rfl
theorem closure_cons (S : St) (n i : Nat) (r acc : List Nat) : closure S (n + 1) (i :: r) acc = if acc.contains i then closure S n r acc else closure S n (refsOb S[i]? ++ r) (acc ++ [i]) := by
  simp only [closure]
  cases S[i]? <;> rfl
theorem tunren_nil (f : Nat → Option Nat) : Tm.unren f [] = some [] := rfl
theorem tunren_cons (f : Nat → Option Nat) (i : Nat) (v : V) (r : Tm) : Tm.unren f ((i, v) :: r) = consO (pairO i (v.unren f)) (Tm.unren f r) := by
  simp only [Tm.unren]
  cases v.unren f with
  | none => rfl
  | some v' => cases Tm.unren f r <;> rfl
theorem unrenL_cons' (f : Nat → Option Nat) (x : V) (r : List V) : V.unrenL f (x :: r) = consO (x.unren f) (V.unrenL f r) := by
  simp only [V.unrenL]
  cases x.unren f with
  | none => rfl
  | some v' => cases V.unrenL f r <;> rfl
def kPair {α : Type} : Option α → Option St → Option (α × St)
  | some v, some S => some (v, S)
  | _, _ => none
theorem kPair_some {α : Type} (v : α) (S : St) : kPair (some v) (some S) = some (v, S) := rfl
def kFin (v : V) (S : St) (ids : List Nat) : Option (V × St) := if nodupB ids then kPair (v.unren (posOf ids)) (focus (posOf ids) S ids) else none
def kGc (T : Tm) (S : St) (ids : List Nat) : Option (Tm × St) := if nodupB ids then kPair (Tm.unren (posOf ids) T) (focus (posOf ids) S ids) else none
theorem finish_eq (base : Nat) (v : V) (S : St) : finish base v S = kFin v S (reached base v.refs S) := by
  unfold finish kFin
  simp only
  split
  · cases v.unren (posOf (reached base v.refs S)) with
    | none => cases focus (posOf (reached base v.refs S)) S (reached base v.refs S) <;> rfl
    | some v' => cases focus (posOf (reached base v.refs S)) S (reached base v.refs S) <;> rfl
  · rfl
theorem gcT_eq (base : Nat) (T : Tm) (S : St) : gcT base T S = kGc T S (reached base T.refs S) := by
  unfold gcT kGc
  simp only
  split
  · cases Tm.unren (posOf (reached base T.refs S)) T with
    | none => cases focus (posOf (reached base T.refs S)) S (reached base T.refs S) <;> rfl
    | some v' => cases focus (posOf (reached base T.refs S)) S (reached base T.refs S) <;> rfl
  · rfl
def kFoc (E : Env) (at_ g : Nat) (ids : List Nat) : Option (List V × St) → Option (V × List (Nat × AObj))
  | some q => kRet ids at_ (E.news g) (E.call g q.1 q.2)
  | none => none
theorem kFoc_some (E : Env) (at_ g : Nat) (ids : List Nat) (args : List V) (T : St) : kFoc E at_ g ids (some (args, T)) = kRet ids at_ (E.news g) (E.call g args T) := rfl
def kIds (E : Env) (at_ : Nat) (S : St) (g : Nat) (args : List V) (ids : List Nat) : Option (V × List (Nat × AObj)) :=
  if nodupB ids && ids.all (· < at_) then kFoc E at_ g ids (kPair (V.unrenL (posOf ids) args) (focus (posOf ids) S ids)) else none
theorem callFn0_gen (E : Env) (at_ : Nat) (S : St) (g : Nat) (args : List V) : callFn0 E at_ S g args = kIds E at_ S g args (closure S 200 (V.refsL args) []) := by
  unfold callFn0 kIds
  simp only
  generalize closure S 200 (V.refsL args) [] = ids
  cases nodupB ids with
  | false => rfl
  | true =>
    simp only [if_true, Bool.true_and]
    split
    · cases V.unrenL (posOf ids) args with
      | none => cases focus (posOf ids) S ids <;> rfl
      | some as =>
        cases focus (posOf ids) S ids with
        | none => rfl
        | some T =>
          simp only [Option.bind_some, kPair, kFoc]
          cases E.call g as T <;> rfl
    · rfl

/-! ## rules -/
theorem refs_any : V.any.refs = [] := by simp only [V.refs]
theorem refs_d (x : D) : (V.d x).refs = [] := by simp only [V.refs]
theorem refs_own (t : Nat) (nn : Bool) (sz : Nat) (xs : List D) : (V.own t nn sz xs).refs = [t] := by simp only [V.refs]
theorem refs_fsl (nn : Bool) (sz : Nat) (xs : List D) : (V.fsl nn sz xs).refs = [] := by simp only [V.refs]
theorem refs_ptr (o off : Nat) : (V.ptr o off).refs = [o] := by simp only [V.refs]
theorem refs_cptr (sz : Nat) (x : D) (off : Nat) : (V.cptr sz x off).refs = [] := by simp only [V.refs]
theorem refs_fn (f : Fn) (a c : List V) : (V.fn f a c).refs = V.refsL a ++ V.refsL c := by simp only [V.refs]
theorem refs_agg (cs : List V) : (V.agg cs).refs = V.refsL cs := by simp only [V.refs]
theorem refs_tup (cs : List V) : (V.tup cs).refs = V.refsL cs := by simp only [V.refs]
theorem refsL_nil : V.refsL [] = [] := by simp only [V.refsL]
theorem refsL_cons (x : V) (r : List V) : V.refsL (x :: r) = x.refs ++ V.refsL r := by simp only [V.refsL]
theorem orefs_box (cs : List V) : (AObj.box cs).refs = V.refsL cs := rfl
theorem orefs_tok (e f sz : Nat) : (AObj.tok e f sz).refs = [] := rfl
theorem orefs_dead : AObj.dead.refs = [] := rfl
theorem cells_d (x : D) : (V.d x).cells = (D.cells x).map V.d := by cases x <;> rfl
theorem dcells_agg (cs : List D) : D.cells (.agg cs) = cs := rfl
theorem dcells_int (k : IntKind) (n : Int) : D.cells (.int k n) = [.int k n] := rfl
theorem dcells_bool (b : Bool) : D.cells (.bool b) = [.bool b] := rfl
theorem dcells_str (s : ByteArray) : D.cells (.str s) = [.str s] := rfl
theorem dcells_sl (nn : Bool) (sz : Nat) (xs : List D) : D.cells (.sl nn sz xs) = [.sl nn sz xs] := rfl
theorem dcells_fn (f : Fn) : D.cells (.fn f) = [.fn f] := rfl
theorem dcells_nilp : D.cells .nilp = [.nilp] := rfl
theorem dcells_nilf : D.cells .nilf = [.nilf] := rfl
theorem cells_ptr (o off : Nat) : (V.ptr o off).cells = [.ptr o off] := rfl
theorem cells_cptr (sz : Nat) (x : D) (off : Nat) : (V.cptr sz x off).cells = [.cptr sz x off] := rfl
theorem cells_own (t : Nat) (nn : Bool) (sz : Nat) (xs : List D) : (V.own t nn sz xs).cells = [.own t nn sz xs] := rfl
theorem cells_fsl (nn : Bool) (sz : Nat) (xs : List D) : (V.fsl nn sz xs).cells = [.fsl nn sz xs] := rfl
theorem cells_fn (f : Fn) (a c : List V) : (V.fn f a c).cells = [.fn f a c] := rfl
theorem cells_agg (cs : List V) : (V.agg cs).cells = cs := rfl
theorem boxable_d (x : D) : (V.d x).boxable = true := rfl
theorem boxable_ptr (o off : Nat) : (V.ptr o off).boxable = true := rfl
theorem boxable_cptr (sz : Nat) (x : D) (off : Nat) : (V.cptr sz x off).boxable = true := rfl
theorem boxable_own (t : Nat) (nn : Bool) (sz : Nat) (xs : List D) : (V.own t nn sz xs).boxable = true := rfl
theorem boxable_fsl (nn : Bool) (sz : Nat) (xs : List D) : (V.fsl nn sz xs).boxable = true := rfl
theorem boxable_fn (f : Fn) (a c : List V) : (V.fn f a c).boxable = true := rfl
theorem boxable_agg (cs : List V) : (V.agg cs).boxable = true := rfl
theorem ren_d (f : Nat → Nat) (x : D) : (V.d x).ren f = .d x := by simp only [V.ren]
theorem ren_any (f : Nat → Nat) : V.any.ren f = .any := by simp only [V.ren]
theorem ren_own (f : Nat → Nat) (t : Nat) (nn : Bool) (sz : Nat) (xs : List D) : (V.own t nn sz xs).ren f = .own (f t) nn sz xs := by simp only [V.ren]
theorem ren_fsl (f : Nat → Nat) (nn : Bool) (sz : Nat) (xs : List D) : (V.fsl nn sz xs).ren f = .fsl nn sz xs := by simp only [V.ren]
theorem ren_ptr (f : Nat → Nat) (o off : Nat) : (V.ptr o off).ren f = .ptr (f o) off := by simp only [V.ren]
theorem ren_cptr (f : Nat → Nat) (sz : Nat) (x : D) (off : Nat) : (V.cptr sz x off).ren f = .cptr sz x off := by simp only [V.ren]
theorem ren_fn (f : Nat → Nat) (g : Fn) (a c : List V) : (V.fn g a c).ren f = .fn g (V.renL f a) (V.renL f c) := by simp only [V.ren]
theorem ren_agg (f : Nat → Nat) (cs : List V) : (V.agg cs).ren f = .agg (V.renL f cs) := by simp only [V.ren]
theorem ren_tup (f : Nat → Nat) (cs : List V) : (V.tup cs).ren f = .tup (V.renL f cs) := by simp only [V.ren]
theorem renL_nil (f : Nat → Nat) : V.renL f [] = [] := by simp only [V.renL]
theorem renL_cons (f : Nat → Nat) (x : V) (r : List V) : V.renL f (x :: r) = x.ren f :: V.renL f r := by simp only [V.renL]
theorem unren_d (f : Nat → Option Nat) (x : D) : (V.d x).unren f = some (.d x) := by simp only [V.unren]
theorem unren_any (f : Nat → Option Nat) : V.any.unren f = some .any := by simp only [V.unren]
theorem unren_own (f : Nat → Option Nat) (t : Nat) (nn : Bool) (sz : Nat) (xs : List D) : (V.own t nn sz xs).unren f = (f t).map fun t => .own t nn sz xs := by simp only [V.unren]
theorem unren_fsl (f : Nat → Option Nat) (nn : Bool) (sz : Nat) (xs : List D) : (V.fsl nn sz xs).unren f = some (.fsl nn sz xs) := by simp only [V.unren]
theorem unren_ptr (f : Nat → Option Nat) (o off : Nat) : (V.ptr o off).unren f = (f o).map fun o => .ptr o off := by simp only [V.unren]
theorem unren_cptr (f : Nat → Option Nat) (sz : Nat) (x : D) (off : Nat) : (V.cptr sz x off).unren f = some (.cptr sz x off) := by simp only [V.unren]
theorem unren_fn (f : Nat → Option Nat) (g : Fn) (a c : List V) : (V.fn g a c).unren f = (V.unrenL f a).bind fun a => (V.unrenL f c).map fun c => .fn g a c := by simp only [V.unren]
theorem unren_agg (f : Nat → Option Nat) (cs : List V) : (V.agg cs).unren f = (V.unrenL f cs).map .agg := by simp only [V.unren]
theorem unren_tup (f : Nat → Option Nat) (cs : List V) : (V.tup cs).unren f = (V.unrenL f cs).map .tup := by simp only [V.unren]
theorem unrenL_nil (f : Nat → Option Nat) : V.unrenL f [] = some [] := by simp only [V.unrenL]
theorem unrenL_cons (f : Nat → Option Nat) (x : V) (r : List V) : V.unrenL f (x :: r) = (x.unren f).bind fun x => (V.unrenL f r).map fun r => x :: r := by simp only [V.unrenL]
theorem freeze_d (x : D) : (V.d x).freeze = .d x := by simp only [V.freeze]
theorem freeze_any : V.any.freeze = .any := by simp only [V.freeze]
theorem freeze_own (t : Nat) (nn : Bool) (sz : Nat) (xs : List D) : (V.own t nn sz xs).freeze = .d (.sl (nn && xs.isEmpty) sz xs) := by simp only [V.freeze]
theorem freeze_fsl (nn : Bool) (sz : Nat) (xs : List D) : (V.fsl nn sz xs).freeze = .d (.sl nn sz xs) := by simp only [V.freeze]
theorem freeze_ptr (o off : Nat) : (V.ptr o off).freeze = .ptr o off := by simp only [V.freeze]
theorem freeze_cptr (sz : Nat) (x : D) (off : Nat) : (V.cptr sz x off).freeze = .cptr sz x off := by simp only [V.freeze]
theorem freeze_fn (f : Fn) (a c : List V) : (V.fn f a c).freeze = .fn f a c := by simp only [V.freeze]
theorem freeze_agg (cs : List V) : (V.agg cs).freeze = .agg cs := by simp only [V.freeze]
theorem freeze_tup (cs : List V) : (V.tup cs).freeze = .tup (V.freezeL cs) := by simp only [V.freeze]
theorem freezeL_nil : V.freezeL [] = [] := by simp only [V.freezeL]
theorem freezeL_cons (x : V) (r : List V) : V.freezeL (x :: r) = x.freeze :: V.freezeL r := by simp only [V.freezeL]
end Go.Vm
