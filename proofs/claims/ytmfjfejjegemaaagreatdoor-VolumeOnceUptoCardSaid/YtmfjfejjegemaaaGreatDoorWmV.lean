/-
  A part of the proof: an abstract run of the program, shown to be what the model does, and what it comes to.
-/
import Derived.Test.YtmfjfejjegemaaaGreatDoorWmU
set_option linter.unusedVariables false
set_option linter.unusedSimpArgs false
set_option linter.unnecessarySimpa false
set_option linter.defProp false
set_option linter.unusedSectionVars false
namespace Go.Wm
open Go
variable [GlobReq]
noncomputable section

/-! ## code -/
inductive Ex where
  | normal | exit (id : Nat) | ret
deriving DecidableEq
def Ex.to : Ex → Exit
  | .normal => .normal
  | .exit id => .exit id
  | .ret => .ret
def Ex.leave (id : Nat) : Ex → Ex
  | .exit j => if j = id then .normal else .exit j
  | e => e

/-- only these slots, in this order -/
def clean (keep : Option (List Nat)) (T : Tm) : Tm :=
  match keep with
  | none => T
  | some l => l.map fun i => (i, T.get i)

/-- which region a piece of code begins with -/
def Code.first : Code → Nat
  | .region id _ _ => id
  | .seq a _ => Code.first a
  | .block _ b => Code.first b
  | .loop b => Code.first b
  | .scope b => Code.first b
  | _ => 0

/-- a nil slice, or one without spare room, as one that may be appended to -/
def promote (rows : Bool) : List (Nat × Nat × Nat) → Tm → St → Tm × St
  | [], T, S => (T, S)
  | (i, e, sz) :: r, T, S =>
    match T.get i with
    | .nil => if rows then promote rows r ((i, .sl S.length 0 0) :: T) (S ++ [.row e sz []]) else promote rows r ((i, .own S.length []) :: T) (S ++ [.tok e 0 sz])
    | .fsl xs => if rows then promote rows r T S else (if xs.all (fun x => x.cells.length == sz) then promote rows r ((i, .own S.length xs) :: T) (S ++ [.tok e xs.length sz]) else promote rows r T S)
    | _ => promote rows r T S

/-- nil slices in an object that may be written, as rows -/
def promoteB : List (Nat × Nat × Nat × Nat) → Tm → St → St
  | [], _, S => S
  | (i, off, e, sz) :: r, T, S =>
    match T.get i with
    | .ptr o k => (match S[o]? with
      | some (.box cs) => (match cs[k + off]? with
        | some .nil => promoteB r T (S.set o (.box (cs.set (k + off) (.sl S.length 0 0))) ++ [.row e sz []])
        | _ => promoteB r T S)
      | _ => promoteB r T S)
    | _ => promoteB r T S

def Tm.refs : Tm → List Nat
  | [] => []
  | (_, v) :: r => v.refs ++ Tm.refs r
def Tm.unren (f : Nat → Option Nat) : Tm → Option Tm
  | [] => some []
  | (i, v) :: r => (v.unren f).bind fun v => (Tm.unren f r).map fun r => (i, v) :: r
/-- what is reached, the first 'base' objects ahead -/
def reached (base : Nat) (l : List Nat) (S : St) : List Nat :=
  List.range base ++ (closure S 200 (List.range base ++ l) []).filter fun i => !(i < base)
def gcT (base : Nat) (T : Tm) (S : St) : Option (Tm × St) :=
  let ids := reached base T.refs S
  if nodupB ids then (Tm.unren (posOf ids) T).bind fun T => (focus (posOf ids) S ids).map fun S => (T, S) else none
def head (E : Env) (base id : Nat) (T : Tm) (S : St) : Option (Tm × St) :=
  match E.loops id with
  | none => some (T, S)
  | some (keep, pr) => gcT base (clean (some keep) (promote E.rows pr T S).1) (promoteB (E.boxes id) (promote E.rows pr T S).1 (promote E.rows pr T S).2)

def evCode (E : Env) (base : Nat) (c : Code) (T : Tm) (S : St) : Option (Tm × St × Ex) :=
  match c with
  | .skip => some (T, S, .normal)
  | .label _ => some (T, S, .normal)
  | .region id ops draw => (if draw then evDraw E ops T S else evOps E ops ops.toList T S).map fun q => (clean (E.keep id) q.1, q.2, .normal)
  | .seq a b => evCode E base a T S >>= fun q => match q.2.2 with | .normal => evCode E base b q.1 q.2.1 | e => some (q.1, q.2.1, e)
  | .cond c x y => (ev T c).bind boolOf >>= fun b => if b then evCode E base x T S else evCode E base y T S
  | .block id b => evCode E base b T S >>= fun q => some (q.1, q.2.1, q.2.2.leave id)
  | .loop b => head E base (Code.first b) T S >>= fun h => evCode E base b h.1 h.2 >>= fun q => match q.2.2 with | .normal => evCode E base (.loop b) q.1 q.2.1 | e => some (q.1, q.2.1, e)
  | .exit id => some (T, S, .exit id)
  | .ret => some (T, S, .ret)
  | _ => none
partial_fixpoint

/-- a loop, from behind its head -/
def evLoop (E : Env) (base : Nat) (b : Code) (T : Tm) (S : St) : Option (Tm × St × Ex) :=
  (evCode E base b T S).bind fun q => match q.2.2 with | .normal => evCode E base (.loop b) q.1 q.2.1 | e => some (q.1, q.2.1, e)

theorem evCode_skip (E : Env) (base : Nat) (T : Tm) (S : St) : evCode E base .skip T S = some (T, S, .normal) := by rw [evCode]
theorem evCode_label (E : Env) (base l : Nat) (T : Tm) (S : St) : evCode E base (.label l) T S = some (T, S, .normal) := by rw [evCode]
theorem evCode_exit (E : Env) (base id : Nat) (T : Tm) (S : St) : evCode E base (.exit id) T S = some (T, S, .exit id) := by rw [evCode]
theorem evCode_ret (E : Env) (base : Nat) (T : Tm) (S : St) : evCode E base .ret T S = some (T, S, .ret) := by rw [evCode]
theorem evCode_region (E : Env) (base id : Nat) (ops : Array Oper) (T : Tm) (S : St) : evCode E base (.region id ops false) T S = (evOps E ops ops.toList T S).map fun q => (clean (E.keep id) q.1, q.2, .normal) := by rw [evCode]; rfl
theorem evCode_draw (E : Env) (base id : Nat) (ops : Array Oper) (T : Tm) (S : St) : evCode E base (.region id ops true) T S = (evDraw E ops T S).map fun q => (clean (E.keep id) q.1, q.2, .normal) := by rw [evCode]; rfl
theorem evCode_seq (E : Env) (base : Nat) (a b : Code) (T : Tm) (S : St) : evCode E base (.seq a b) T S = (evCode E base a T S).bind fun q => match q.2.2 with | .normal => evCode E base b q.1 q.2.1 | e => some (q.1, q.2.1, e) := by
  rw [evCode]; rfl
theorem evCode_cond (E : Env) (base : Nat) (c : Operand) (x y : Code) (T : Tm) (S : St) : evCode E base (.cond c x y) T S = ((ev T c).bind boolOf).bind fun b => if b then evCode E base x T S else evCode E base y T S := by rw [evCode]; rfl
theorem evCode_block (E : Env) (base id : Nat) (b : Code) (T : Tm) (S : St) : evCode E base (.block id b) T S = (evCode E base b T S).bind fun q => some (q.1, q.2.1, q.2.2.leave id) := by rw [evCode]; rfl
theorem evCode_loop (E : Env) (base : Nat) (b : Code) (T : Tm) (S : St) : evCode E base (.loop b) T S = (head E base (Code.first b) T S).bind fun h => evLoop E base b h.1 h.2 := by rw [evCode]; rfl

/-- what holds of a piece of code, whatever it runs on -/
def statOk (n : Nat) : Code → Bool
  | .region _ ops draw => (ops.all fun o => match o.dst with | some d => decide (d < n) | none => true) && (!draw || pairB ops)
  | .seq a b => statOk n a && statOk n b
  | .cond _ a b => statOk n a && statOk n b
  | .block _ b => statOk n b
  | .loop b => statOk n b
  | .skip | .label _ | .exit _ | .ret => true
  | _ => false

theorem statOk_region {n id : Nat} {ops : Array Oper} {draw : Bool} (h : statOk n (.region id ops draw) = true) :
    (∀ (j : Nat) (o : Oper) k, ops[j]? = some o → o.dst = some k → k < n) ∧ (draw = true → pairB ops = true) := by
  simp only [statOk, Bool.and_eq_true, Array.all_eq_true_iff_forall_mem, Bool.or_eq_true, Bool.not_eq_true'] at h
  refine ⟨fun j o k hj hk => ?_, fun hd => h.2.resolve_left (by simp [hd])⟩
  have hm : o ∈ ops := by
    obtain ⟨h1, h2⟩ := Array.getElem?_eq_some_iff.1 hj
    exact h2 ▸ Array.getElem_mem h1
  have := h.1 o hm
  simpa [hk] using this

section
variable {P : Program} {E : Env} {n : Nat} {γ : Gh} {S : St} {w : World} {T : Tm} {a : Act}

theorem Tm.get_clean {l : List Nat} {T : Tm} {j : Nat} : (clean (some l) T).get j = T.get j ∨ (clean (some l) T).get j = .any := by
  unfold clean
  induction l with
  | nil => exact .inr rfl
  | cons i l ih =>
    simp only [List.map_cons, Tm.get]
    by_cases h : i = j
    · subst h; exact .inl (by simp)
    · simpa [h] using ih

theorem RT.clean (h : RT n γ S w T a) (keep : Option (List Nat)) : RT n γ S w (clean keep T) a := by
  cases keep with
  | none => exact h
  | some l =>
    refine ⟨h.size, h.defers, fun i => ?_⟩
    rcases Tm.get_clean (l := l) (T := T) (j := i) with e | e <;> rw [e]
    · exact h.get i
    · exact .any _

/-- a new list that has no block yet -/
theorem tok_new (hI : Inv γ S w) {ob : AObj} (hob : (∃ e f sz, ob = .tok e f sz) ∨ ∃ e sz, ob = .row e sz []) : ∃ γ', Inv γ' (S ++ [ob]) w ∧ Ext S.length γ S w γ' (S ++ [ob]) w ∧ γ'.mu S.length = none := by
  obtain ⟨g1, g2, g3⟩ := more_dead hI
  have hd : (S ++ [AObj.dead])[S.length]? = some .dead := by simp
  have hset : (S ++ [AObj.dead]).set S.length ob = S ++ [ob] := by rw [List.set_append_right _ _ (Nat.le_refl _)]; simp
  obtain ⟨h1, h2⟩ := fill (γ' := γ.at S.length none) (w' := w) g1 hd g3 ob (by rcases hob with ⟨_, _, _, rfl⟩ | ⟨_, _, rfl⟩ <;> (intro h; cases h)) (fun _ _ => rfl) (fun b hb => by rw [g3] at hb; cases hb) (fun _ _ => rfl) (Nat.le_refl _)
    (fun _ _ h => h) (fun _ _ h => .inl h) rfl rfl rfl (fun _ => by
      rcases hob with ⟨e, f, sz, rfl⟩ | ⟨e, sz, rfl⟩
      · exact fun b hb => (by rw [g3] at hb; cases hb)
      · exact ⟨fun _ => rfl, fun b hb => (by rw [g3] at hb; cases hb)⟩)
  rw [hset] at h1 h2
  exact ⟨_, h1, g2.trans (h2.less (by simp)), g3⟩

theorem RT.cons {i : Nat} {v : V} (h : RT n γ S w T a) (hv : RV γ S w v (a.tmps.getD i undef)) : RT n γ S w ((i, v) :: T) a := by
  refine ⟨h.size, h.defers, fun j => ?_⟩
  simp only [Tm.get]
  by_cases hij : i = j
  · subst hij; simpa using hv
  · simpa [hij] using h.get j

theorem promote_ok (rows : Bool) : ∀ (l : List (Nat × Nat × Nat)) {γ : Gh} {S : St} {T : Tm}, Inv γ S w → RT n γ S w T a →
    ∃ γ', Inv γ' (promote rows l T S).2 w ∧ Ext S.length γ S w γ' (promote rows l T S).2 w ∧ RT n γ' (promote rows l T S).2 w (promote rows l T S).1 a
  | [], γ, S, T, hI, hT => ⟨γ, hI, Ext.refl (Nat.le_refl _), hT⟩
  | (i, e, sz) :: r, γ, S, T, hI, hT => by
    have hv := hT.get i
    unfold promote
    split
    · rename_i hx
      rw [hx] at hv
      have hnil : a.tmps.getD i undef = .slice none 0 0 := by
        generalize a.tmps.getD i undef = v at hv
        cases hv
        rfl
      cases rows with
      | false =>
        simp only [Bool.false_eq_true, if_false]
        obtain ⟨γ1, k1, k2, k3⟩ := tok_new hI (ob := .tok e 0 sz) (.inl ⟨_, _, _, rfl⟩)
        have hv' : RV γ1 (S ++ [.tok e 0 sz]) w (.own S.length []) (a.tmps.getD i undef) := by
          rw [hnil]
          exact .own _ e sz 0 _ _ (by simp) (Nat.le_refl _) .nils (fun _ => .inl rfl) (fun x hx => by cases hx)
        obtain ⟨γ2, g1, g2, g3⟩ := promote_ok false r k1 ((hT.mono k2).cons hv')
        exact ⟨γ2, g1, k2.trans (g2.less (by simp)), g3⟩
      | true =>
        simp only [if_true]
        obtain ⟨γ1, k1, k2, k3⟩ := tok_new hI (ob := .row e sz []) (.inr ⟨_, _, rfl⟩)
        have hv' : RV γ1 (S ++ [.row e sz []]) w (.sl S.length 0 0) (a.tmps.getD i undef) := by
          rw [hnil]
          exact .sl _ 0 0 (.row e sz []) _ (.zero rfl) (by simp) (.inr ⟨_, rfl⟩) (fun e1 sz1 xs1 hr1 => by cases hr1; exact ⟨by simp, .inl ⟨rfl, none, rfl⟩⟩)
        obtain ⟨γ2, g1, g2, g3⟩ := promote_ok true r k1 ((hT.mono k2).cons hv')
        exact ⟨γ2, g1, k2.trans (g2.less (by simp)), g3⟩
    · rename_i xs hx
      rw [hx] at hv
      split
      · exact promote_ok rows r hI hT
      · split
        · rename_i hall
          have hsz : ∀ x ∈ xs, x.cells.length = sz := fun x hx => by simpa using List.all_eq_true.1 hall x hx
          obtain ⟨γ1, k1, k2, k3⟩ := tok_new hI (ob := .tok e xs.length sz) (.inl ⟨_, _, _, rfl⟩)
          have hv' : RV γ1 (S ++ [.tok e xs.length sz]) w (.own S.length xs) (a.tmps.getD i undef) := by
            generalize a.tmps.getD i undef = v at hv
            cases hv with
            | fsl _ ad hd =>
              have hd' := hd.mono k2.fz k2.cell
              exact .own _ e sz _ _ _ (by simp) (Nat.le_refl _) hd' (fun _ => .inr (.inl ⟨ad, rfl⟩)) hsz
          obtain ⟨γ2, g1, g2, g3⟩ := promote_ok rows r k1 ((hT.mono k2).cons hv')
          exact ⟨γ2, g1, k2.trans (g2.less (by simp)), g3⟩
        · exact promote_ok rows r hI hT
    · exact promote_ok rows r hI hT

/-- an object that holds something else of what it holds now -/
theorem reBox (hI : Inv γ S w) {o : Nat} {cs cs' : List V} (ho : S[o]? = some (.box cs)) (hl : cs'.length = cs.length)
    (hr : ∀ (i : Nat) (x y : V) (v : Value), cs[i]? = some x → cs'[i]? = some y → RV γ S w x v → RV γ S w y v) : Inv γ (S.set o (.box cs')) w ∧ Ext S.length γ S w γ (S.set o (.box cs')) w := by
  obtain ⟨b, vs, e, h1, h2, h3, h4, h5⟩ := hI.obj o _ ho
  have he : Ext S.length γ S w γ (S.set o (.box cs')) w :=
    Ext.setObj (γ' := γ) hI ho h1 (fun _ _ => rfl) rfl (fun _ _ => rfl) (fun _ _ h => h) (fun _ _ h => .inl h) (fun _ _ => rfl) ⟨rfl, cs', rfl⟩ rfl rfl rfl
  refine ⟨Inv.setObj (γ' := γ) hI ho h1 (fun _ _ => rfl) rfl (fun _ _ => rfl) (fun _ _ h => .inl h) he ⟨b, vs, e, h1, h2, by omega, fun i y v hy hv => ?_, h5⟩, he⟩
  have hi := (List.getElem?_eq_some_iff.1 hy).1
  have hx : cs[i]? = some (cs[i]'(by omega)) := List.getElem?_eq_getElem _
  obtain ⟨q1, q2⟩ := h4 i _ v hx hv
  exact ⟨q1, (hr i _ y v hx hy q2).mono he⟩
theorem promoteB_ok : ∀ (l : List (Nat × Nat × Nat × Nat)) {γ : Gh} {S : St} {T : Tm}, Inv γ S w → RT n γ S w T a →
    ∃ γ', Inv γ' (promoteB l T S) w ∧ Ext S.length γ S w γ' (promoteB l T S) w
  | [], γ, S, T, hI, hT => ⟨γ, hI, Ext.refl (Nat.le_refl _)⟩
  | (i, off, e, sz) :: r, γ, S, T, hI, hT => by
    unfold promoteB
    split
    · rename_i o k hx
      split
      · rename_i cs ho
        split
        · rename_i hnil
          obtain ⟨γ1, k1, k2, k3⟩ := tok_new hI (ob := .row e sz []) (.inr ⟨_, _, rfl⟩)
          have hlo := (List.getElem?_eq_some_iff.1 ho).1
          have hkl := (List.getElem?_eq_some_iff.1 hnil).1
          have ho1 : (S ++ [AObj.row e sz []])[o]? = some (.box cs) := by rw [List.getElem?_append_left hlo]; exact ho
          obtain ⟨g1, g2⟩ := reBox (cs' := cs.set (k + off) (.sl S.length 0 0)) k1 ho1 (by simp) (fun j x y v hx hy hr => by
            rw [List.getElem?_set' _ _ _ _ hkl] at hy
            by_cases hj : k + off = j
            · subst hj
              rw [if_pos rfl] at hy
              cases hy
              rw [hnil] at hx
              cases hx
              cases hr
              exact .sl _ 0 0 (.row e sz []) _ (.zero rfl) (by simp) (.inr ⟨_, rfl⟩) (fun e1 sz1 xs1 hr1 => by cases hr1; exact ⟨by simp, .inl ⟨rfl, none, rfl⟩⟩)
            · rw [if_neg hj, hx] at hy
              cases hy
              exact hr)
          have hset : (S ++ [AObj.row e sz []]).set o (.box (cs.set (k + off) (.sl S.length 0 0))) = S.set o (.box (cs.set (k + off) (.sl S.length 0 0))) ++ [.row e sz []] := List.set_append_left _ _ hlo
          rw [hset] at g1 g2
          obtain ⟨γ2, q1, q2⟩ := promoteB_ok r g1 ((hT.mono k2).mono g2)
          exact ⟨γ2, q1, k2.trans ((g2.less (by simp)).trans (q2.less (by simp)))⟩
        · exact promoteB_ok r hI hT
      · exact promoteB_ok r hI hT
    · exact promoteB_ok r hI hT

theorem Keep.unren {f : Nat → Option Nat} {γ0 γ γ' : Gh} {w0 w : World} {o : Nat} {ob ob1 ob2 : AObj} (h : Keep γ0 w0 γ w o ob (some ob1)) (hu : ob1.unren f = some ob2) (hmu : γ'.mu o = γ.mu o) : Keep γ0 w0 γ' w o ob (some ob2) := by
  cases ob with
  | box cs =>
    obtain ⟨g1, cs', g2⟩ := h
    cases g2
    simp only [AObj.unren, Option.map_eq_some_iff] at hu
    obtain ⟨ds, _, rfl⟩ := hu
    exact ⟨hmu.trans g1, ds, rfl⟩
  | tok e f' sz =>
    obtain ⟨f1, g1, g2, g3⟩ := h
    cases g1
    simp only [AObj.unren, Option.some.injEq] at hu
    subst hu
    exact ⟨f1, rfl, g2, fun hf => ⟨hmu.trans (g3 hf).1, (g3 hf).2⟩⟩
  | row e sz xs =>
    rcases h with h | ⟨g1, g2, xs', g3, h | h⟩ <;> (cases h; simp only [AObj.unren, Option.some.injEq] at hu; subst hu)
    · exact .inl rfl
    · exact .inr ⟨hmu.trans g1, g2, xs', g3, .inl rfl⟩
    · exact .inr ⟨hmu.trans g1, g2, xs', g3, .inr rfl⟩
  | fro e sz xs =>
    rcases h with h | ⟨g1, g2, h⟩ <;> (cases h; simp only [AObj.unren, Option.some.injEq] at hu; subst hu)
    · exact .inl rfl
    · exact .inr ⟨hmu.trans g1, g2, rfl⟩
  | map kvs =>
    obtain ⟨g1, cs', h⟩ := h
    cases h
    simp only [AObj.unren, Option.some.injEq] at hu
    subst hu
    exact ⟨hmu.trans g1, cs', rfl⟩
  | gone =>
    have h' : some ob1 = some AObj.gone := h
    cases h'
    simp only [AObj.unren, Option.some.injEq] at hu
    subst hu
    rfl
  | dead =>
    intro hd
    cases hd
    have : ob1 = .dead := by
      cases ob1 with
      | dead => rfl
      | box cs => simp [AObj.unren] at hu
      | _ => simp [AObj.unren] at hu
    subst this
    exact hmu.trans (h rfl)

/-- what of a state is kept, seen from an earlier one -/
theorem Ext.part {m : Nat} {γ0 : Gh} {S0 S1 : St} {w0 : World} {ids : List Nat} (he : Ext m γ0 S0 w0 γ S w) (hm : ∀ k, k < m → ids[k]? = some k) (hf : focus (posOf ids) S ids = some S1) : Ext m γ0 S0 w0 (γ.part ids) S1 w := by
  obtain ⟨hl, hg⟩ := focus_get hf
  refine { he with len' := ?_, obj := fun o ob ho hob => ?_, own := fun b ⟨k, hk, hb⟩ => ?_, fz := he.fz }
  · rcases Nat.eq_zero_or_pos m with h | h
    · omega
    · have := (List.getElem?_eq_some_iff.1 (hm (m - 1) (by omega))).1
      omega
  · have hk := he.obj o ob ho hob
    have hid := hm o ho
    obtain ⟨ob1, ob2, h1, h2, h3⟩ := hg o o hid
    have hmu : (γ.part ids).mu o = γ.mu o := by simp [Gh.part, hid]
    rw [h3]
    rw [h1] at hk
    exact hk.unren h2 hmu
  · have e : ids[k]? = some (ids[k]'(by omega)) := by simp
    obtain ⟨ob, _, h1, _⟩ := hg k _ e
    exact he.own b ⟨_, (List.getElem?_eq_some_iff.1 h1).1, by simpa [Gh.part, e] using hb⟩

theorem Tm.unren_get {f : Nat → Option Nat} : ∀ {T T' : Tm}, Tm.unren f T = some T' → ∀ i, (T.get i).unren f = some (T'.get i)
  | [], T', h, i => by simp [Tm.unren] at h; subst h; rfl
  | (j, v) :: r, T', h, i => by
    simp only [Tm.unren] at h
    cases hv : v.unren f with
    | none => simp [hv] at h
    | some u =>
      simp only [hv, Option.bind_some, Option.map_eq_some_iff] at h
      obtain ⟨r', h, rfl⟩ := h
      simp only [Tm.get]
      split
      · exact hv
      · exact Tm.unren_get h i

theorem reached_range {base : Nat} {l : List Nat} {S : St} : ∀ k, k < base → (reached base l S)[k]? = some k := fun k hk => by
  unfold reached
  rw [List.getElem?_append_left (by simpa using hk)]
  simp [hk]

theorem gcT_ok {m base : Nat} {γ0 : Gh} {S0 : St} {w0 : World} {T1 : Tm} {S1 : St} (h : gcT base T S = some (T1, S1)) (hI : Inv γ S w) (hT : RT n γ S w T a) (hm : m ≤ base) (he : Ext m γ0 S0 w0 γ S w) :
    ∃ γ', Inv γ' S1 w ∧ Ext m γ0 S0 w0 γ' S1 w ∧ RT n γ' S1 w T1 a := by
  unfold gcT at h
  simp only at h
  split at h <;> first | (cases h; done) | skip
  rename_i hn
  cases hT' : Tm.unren (posOf (reached base T.refs S)) T with
  | none => simp [hT'] at h
  | some T2 =>
    simp only [hT', Option.bind_some, Option.map_eq_some_iff, Prod.mk.injEq] at h
    obtain ⟨S2, hf, rfl, rfl⟩ := h
    have hu := Tm.unren_get hT'
    exact ⟨_, hI.part (nodup_of_nodupB hn) hf, he.part (fun k hk => reached_range k (by omega)) hf, hT.size, hT.defers, fun i => (hT.get i).part hf (hu i)⟩

theorem head_ok {m base id : Nat} {γ0 : Gh} {S0 : St} {w0 : World} {T1 : Tm} {S1 : St} (h : head E base id T S = some (T1, S1)) (hI : Inv γ S w) (hT : RT n γ S w T a) (hm : m ≤ base) (he : Ext m γ0 S0 w0 γ S w) :
    ∃ γ', Inv γ' S1 w ∧ Ext m γ0 S0 w0 γ' S1 w ∧ RT n γ' S1 w T1 a := by
  unfold head at h
  split at h
  · cases h
    exact ⟨γ, hI, he, hT⟩
  · rename_i keep pr _
    obtain ⟨γ1, k1, k2, k3⟩ := promote_ok E.rows pr hI hT
    obtain ⟨γ2, q1, q2⟩ := promoteB_ok (E.boxes id) k1 k3
    have hE := he.trans (k2.less he.len')
    exact gcT_ok h q1 ((k3.mono q2).clean _) hm (hE.trans (q2.less hE.len'))
end

/-- what a run of code comes to -/
def Sound (P : Program) (n base : Nat) (c : Code) (T : Tm) (S : St) (r : Tm × St × Ex) : Prop :=
  statOk n c = true → ∀ (m : Nat) (γ0 : Gh) (S0 : St) (w0 : World), m ≤ base → ∀ (γ : Gh) (w : World) (a : Act) (Q : Exit → Act → World → Prop), Inv γ S w → RT n γ S w T a → Ext m γ0 S0 w0 γ S w →
    (∀ γ' w' a', Inv γ' r.2.1 w' → Ext m γ0 S0 w0 γ' r.2.1 w' → RT n γ' r.2.1 w' r.1 a' → Q r.2.2.to a' w') → c.wp P Q a w

def SoundIn (P : Program) (n base : Nat) (c : Code) (T : Tm) (S : St) (r : Tm × St × Ex) : Prop :=
  ∀ b, c = .loop b → statOk n c = true → ∀ (m : Nat) (γ0 : Gh) (S0 : St) (w0 : World), m ≤ base → ∀ (γ : Gh) (w : World) (a : Act) (Q : Exit → Act → World → Prop), Inv γ S w → RT n γ S w T a → Ext m γ0 S0 w0 γ S w →
    (∀ γ' w' a', Inv γ' r.2.1 w' → Ext m γ0 S0 w0 γ' r.2.1 w' → RT n γ' r.2.1 w' r.1 a' → Q r.2.2.to a' w') →
    ∀ (bf : Frame) (k : List Item) (cs : List Frame), ∃ e a' w', Q e a' w' ∧ Arrives P (lone (bf.at a (.code b :: .inLoop b :: k)) cs w) bf k cs e a' w'

section
variable {P : Program} {E : Env} {n base : Nat} (hty : TyOk P E.ty) (hcall : CallOk P E) (hm : P.follows .mixedOrders = true)
include hty hcall hm

theorem evCode_in : ∀ (c : Code) (T : Tm) (S : St) (r : Tm × St × Ex), evCode E base c T S = some r → Sound P n base c T S r ∧ SoundIn P n base c T S r := by
  apply evCode.partial_correctness E base (motive := fun c T S r => Sound P n base c T S r ∧ SoundIn P n base c T S r)
  intro evCode' ih2 c T S r h
  have ih : ∀ c T S r, evCode' c T S = some r → Sound P n base c T S r := fun c T S r h => (ih2 c T S r h).1
  -- the rounds of a loop
  have hin : SoundIn P n base c T S r := by
    intro b hc hs m γ0 S0 w0 hmb γ w a Q hI hT he hQ
    subst hc
    have hs' : statOk n b = true := hs
    simp only [Option.bind_eq_bind, Option.bind_eq_some_iff] at h
    obtain ⟨⟨T1, S1⟩, hh, ⟨T2, S2, e⟩, h1, h⟩ := h
    obtain ⟨γ1, g1, g2, g3⟩ := head_ok hh hI hT hmb he
    intro bf k cs
    have body := ih _ _ _ _ h1 hs' m γ0 S0 w0 hmb γ1 w a (fun e' a' w' => e' = e.to ∧ ∃ γ', Inv γ' S2 w' ∧ Ext m γ0 S0 w0 γ' S2 w' ∧ RT n γ' S2 w' T2 a') g1 g3 g2 (fun γ' w' a' k1 k2 k3 => ⟨rfl, γ', k1, k2, k3⟩)
    obtain ⟨e1, a1, w1, ⟨he1, γ', k1, k2, k3⟩, harr⟩ := body bf (.inLoop b :: k) cs
    subst he1
    cases e with
    | normal =>
      obtain ⟨e2, a2, w2, hq2, harr2⟩ := (ih2 _ _ _ _ h).2 b rfl hs m γ0 S0 w0 hmb γ' w1 a1 Q k1 k3 k2 hQ bf k cs
      exact ⟨e2, a2, w2, hq2, .of_steps (Steps.trans harr (.one step_inLoop)) harr2⟩
    | exit id => simp only [Option.some.injEq] at h; subst h; exact ⟨_, a1, w1, hQ γ' w1 a1 k1 k2 k3, .pass (x := .inLoop b) rfl (fun _ _ => .inl (by simp [Ex.to])) harr⟩
    | ret => simp only [Option.some.injEq] at h; subst h; exact ⟨_, a1, w1, hQ γ' w1 a1 k1 k2 k3, .pass (x := .inLoop b) rfl (fun _ _ => .inl (by simp [Ex.to])) harr⟩
  refine ⟨?_, hin⟩
  intro hs m γ0 S0 w0 hmb γ w a Q hI hT he hQ
  cases c with
  | skip => simp only [Option.some.injEq] at h; subst h; exact wp_skip (hQ γ w a hI he hT)
  | label l => simp only [Option.some.injEq] at h; subst h; exact wp_label (hQ γ w a hI he hT)
  | exit id => simp only [Option.some.injEq] at h; subst h; exact wp_exit (hQ γ w a hI he hT)
  | ret => simp only [Option.some.injEq] at h; subst h; exact wp_ret (hQ γ w a hI he hT)
  | region id ops draw =>
    obtain ⟨hd, hp⟩ := statOk_region hs
    cases draw with
    | false =>
      simp only [Bool.false_eq_true, if_false, Option.map_eq_some_iff] at h
      obtain ⟨⟨T1, S1⟩, h, rfl⟩ := h
      exact region_ok hty hcall hd h hI hT fun γ' w' a' k1 k2 k3 => hQ γ' w' a' k1 (he.trans (k2.less he.len')) (k3.clean _)
    | true =>
      simp only [if_true, Option.map_eq_some_iff] at h
      obtain ⟨⟨T1, S1⟩, h, rfl⟩ := h
      exact draw_ok hty hcall hm hd (hp rfl) h hI hT fun γ' w' a' k1 k2 k3 => hQ γ' w' a' k1 (he.trans (k2.less he.len')) (k3.clean _)
  | seq x y =>
    simp only [statOk, Bool.and_eq_true] at hs
    simp only [Option.bind_eq_bind, Option.bind_eq_some_iff] at h
    obtain ⟨⟨T1, S1, e⟩, h1, h⟩ := h
    refine wp_seq (ih _ _ _ _ h1 hs.1 m γ0 S0 w0 hmb γ w a _ hI hT he fun γ' w' a' k1 k2 k3 => ?_)
    cases e with
    | normal => exact ih _ _ _ _ h hs.2 m γ0 S0 w0 hmb γ' w' a' Q k1 k3 k2 hQ
    | exit id => simp only [Option.some.injEq] at h; subst h; exact hQ γ' w' a' k1 k2 k3
    | ret => simp only [Option.some.injEq] at h; subst h; exact hQ γ' w' a' k1 k2 k3
  | cond x y z =>
    simp only [statOk, Bool.and_eq_true] at hs
    simp only [Option.bind_eq_bind, Option.bind_eq_some_iff] at h
    obtain ⟨b, ⟨v, hv, hb⟩, h⟩ := h
    have hx := boolOf_ok hb (ev_ok hT hv)
    cases b with
    | true => exact wp_cond hx (ih _ _ _ _ h hs.1 m γ0 S0 w0 hmb γ w a Q hI hT he hQ)
    | false => exact wp_cond hx (ih _ _ _ _ (by simpa using h) hs.2 m γ0 S0 w0 hmb γ w a Q hI hT he hQ)
  | block id b =>
    simp only [statOk] at hs
    simp only [Option.bind_eq_bind, Option.bind_eq_some_iff, Option.some.injEq] at h
    obtain ⟨⟨T1, S1, e⟩, h1, rfl⟩ := h
    refine wp_block (ih _ _ _ _ h1 hs m γ0 S0 w0 hmb γ w a _ hI hT he fun γ' w' a' k1 k2 k3 => ?_)
    have hq := hQ γ' w' a' k1 k2 k3
    cases e with
    | normal => exact hq
    | ret => exact hq
    | exit j =>
      simp only [Ex.to, Ex.leave, Exit.inBlock] at hq ⊢
      by_cases hj : j = id
      · simpa [hj, Ex.to] using hq
      · simpa [hj, Ex.to] using hq
  | loop b =>
    intro bf k cs
    obtain ⟨e, a', w', q, harr⟩ := hin b rfl hs m γ0 S0 w0 hmb γ w a Q hI hT he hQ bf k cs
    exact ⟨e, a', w', q, .of_steps (.one step_loop) harr⟩
  | rangeFunc => cases h
  | scope => cases h
  | goto => cases h
  | refuse => cases h

theorem evCode_ok {c : Code} {T : Tm} {S : St} {r : Tm × St × Ex} (h : evCode E base c T S = some r) : Sound P n base c T S r := (evCode_in hty hcall hm c T S r h).1
end
end
end Go.Wm
