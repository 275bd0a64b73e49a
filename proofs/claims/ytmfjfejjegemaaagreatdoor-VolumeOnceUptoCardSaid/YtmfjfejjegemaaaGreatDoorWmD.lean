/-
  A part of the proof: an abstract run of the program, shown to be what the model does, and what it comes to.
-/
import Derived.Test.YtmfjfejjegemaaaGreatDoorWmC
set_option linter.unusedVariables false
set_option linter.unusedSimpArgs false
set_option linter.unnecessarySimpa false
set_option linter.defProp false
set_option linter.unusedSectionVars false
namespace Go.Wm
open Go

/-! ## the table of types -/
def descOk (P : Program) (t : Nat) : TD → Bool
  | .bool => match P.underlying t with | some .bool => true | _ => false
  | .int k => match P.underlying t with | some (.int k') => k == k' | _ => false
  | .str => match P.underlying t with | some .string => true | _ => false
  | .sl e s b => (match P.underlying t with | some (.slice e') => e == e' | _ => false) && (match P.info? e with | some info => info.size == s && info.bytes == b | none => false)
  | .st fs => match P.underlying t with | some (.struct fields) => fields.toList.map (fun f => (f.offset, f.type, (P.info? f.type).map (·.size))) == fs.map (fun r => (r.1, r.2.1, some r.2.2)) | _ => false
  | .arr n e s => (match P.underlying t with | some (.array n' e') => n == n' && e == e' | _ => false) && (match P.info? e with | some info => info.size == s | none => false)
  | .ptr e => match P.underlying t with | some (.pointer e') => e == e' | _ => false
  | .map k e => match P.underlying t with | some (.map k' e') => k == k' && e == e' | _ => false
  | .func => match P.underlying t with | some (.func _ _ _) => true | _ => false
  | .ifc => match P.underlying t with | some (.interface _) => true | _ => false
def infoOk (P : Program) (t : Nat) (i : TI) : Bool :=
  match P.info? t with
    | some info => info.size == i.size && info.bytes == i.bytes && match info.zero with
      | some z => areVals i.zero z.cells.toList && z.cells.size == i.size && (i.desc.isAgg == (match z with | .agg _ => true | _ => false))
      | none => false
    | none => false
def plainOk (P : Program) (t : Nat) : Bool := !P.eqGuardType P.depth t && !P.stoodInHeld t && (match P.underlying t with | some (.struct fields) => fields.toList.all (fun f => f.name != "_") | _ => false)
def tiOk (P : Program) (t : Nat) (i : TI) : Bool := (descOk P t i.desc && infoOk P t i) && (!i.plain || plainOk P t)
def TyOk (P : Program) (ty : Nat → Option TI) : Prop := ∀ t i, ty t = some i → tiOk P t i = true
def tabOf (l : List (Nat × TI)) (t : Nat) : Option TI :=
  match l with
  | [] => none
  | (u, i) :: r => if u = t then some i else tabOf r t
theorem tyOk_of_tab (P : Program) (l : List (Nat × TI)) (h : l.all (fun p => tiOk P p.1 p.2) = true) : TyOk P (tabOf l) := by
  intro t i hi
  induction l with
  | nil => simp [tabOf] at hi
  | cons p r ih =>
    obtain ⟨u, j⟩ := p
    simp only [List.all_cons, Bool.and_eq_true] at h
    simp only [tabOf] at hi
    by_cases hu : u = t
    · rw [if_pos hu] at hi
      cases hi
      subst hu
      exact h.1
    · rw [if_neg hu] at hi
      exact ih h.2 hi

section
variable {P : Program} {ty : Nat → Option TI} (hty : TyOk P ty)
include hty
theorem TyOk.info' {t : Nat} {i : TI} (h : ty t = some i) : ∃ info z, P.info? t = some info ∧ info.size = i.size ∧ info.bytes = i.bytes ∧ info.zero = some z ∧ areVals i.zero z.cells.toList = true ∧ z.cells.size = i.size ∧
    i.desc.isAgg = (match z with | .agg _ => true | _ => false) := by
  have h1 := hty t i h
  simp only [tiOk, Bool.and_eq_true] at h1
  obtain ⟨⟨_, h2⟩, _⟩ := h1
  unfold infoOk at h2
  cases hi : P.info? t with
  | none => simp [hi] at h2
  | some info =>
    simp only [hi, Bool.and_eq_true, beq_iff_eq] at h2
    cases hz : info.zero with
    | none => simp [hz] at h2
    | some z =>
      simp only [hz, Bool.and_eq_true, beq_iff_eq] at h2
      exact ⟨info, z, rfl, h2.1.1, h2.1.2, hz, h2.2.1.1, h2.2.1.2, h2.2.2⟩
theorem TyOk.info {t : Nat} {i : TI} (h : ty t = some i) : ∃ info z, P.info? t = some info ∧ info.size = i.size ∧ info.bytes = i.bytes ∧ info.zero = some z ∧ areVals i.zero z.cells.toList = true ∧ z.cells.size = i.size := by
  obtain ⟨info, z, h1, h2, h3, h4, h5, h6, _⟩ := hty.info' h
  exact ⟨info, z, h1, h2, h3, h4, h5, h6⟩
theorem TyOk.plain {t : Nat} {i : TI} (h : ty t = some i) (hp : i.plain = true) : P.eqGuardType P.depth t = false ∧ P.stoodInHeld t = false ∧ ∃ fields, P.underlying t = some (.struct fields) ∧ ∀ f ∈ fields.toList, f.name ≠ "_" := by
  have h1 := hty t i h
  simp only [tiOk, Bool.and_eq_true, hp, Bool.not_true, Bool.false_or, Bool.not_eq_true', plainOk] at h1
  obtain ⟨_, ⟨h2, h3⟩, h4⟩ := h1
  refine ⟨h2, h3, ?_⟩
  split at h4
  · rename_i fields hu
    exact ⟨fields, hu, fun f hf => by have := List.all_eq_true.1 h4 f hf; simpa using this⟩
  · cases h4
theorem TyOk.size {t : Nat} {i : TI} (h : ty t = some i) (w : World) : (sizeOf t).run P w = .ok i.size w := by
  obtain ⟨info, z, h1, h2, _⟩ := hty.info h
  simp [sizeOf, typeInfo, h1, h2]
theorem TyOk.desc {t : Nat} {i : TI} (h : ty t = some i) : descOk P t i.desc = true := by
  have h1 := hty t i h
  simp only [tiOk, Bool.and_eq_true] at h1
  exact h1.1.1
theorem TyOk.isAgg {t : Nat} {i : TI} (h : ty t = some i) (w : World) : (isAgg t).run P w = .ok i.desc.isAgg w := by
  have h1 := hty.desc h
  cases hd : i.desc <;> rw [hd] at h1 <;> simp only [descOk, Bool.and_eq_true] at h1 <;> (try obtain ⟨h1, _⟩ := h1) <;> (split at h1 <;> first | (cases h1; done) | skip) <;> rename_i hu <;>
    simp [Go.isAgg, run_underlying hu, TD.isAgg]
theorem TyOk.slice {t e s b : Nat} {i : TI} (h : ty t = some i) (hd : i.desc = .sl e s b) : P.underlying t = some (.slice e) ∧ ∃ info, P.info? e = some info ∧ info.size = s ∧ info.bytes = b := by
  have h1 := hty.desc h
  rw [hd] at h1
  simp only [descOk, Bool.and_eq_true] at h1
  obtain ⟨h1, h2⟩ := h1
  refine ⟨?_, ?_⟩
  · split at h1
    · rename_i hu; simp only [beq_iff_eq] at h1; rw [hu, h1]
    · cases h1
  · split at h2
    · rename_i info hu; simp only [beq_iff_eq, Bool.and_eq_true] at h2; exact ⟨info, hu, h2.1, h2.2⟩
    · cases h2
theorem TyOk.sliceSize {t e s b : Nat} {i : TI} (h : ty t = some i) (hd : i.desc = .sl e s b) (w : World) : (sizeOf e).run P w = .ok s w := by
  obtain ⟨_, info, h1, h2, _⟩ := hty.slice h hd
  simp [sizeOf, typeInfo, h1, h2]
theorem TyOk.array {t n e s : Nat} {i : TI} (h : ty t = some i) (hd : i.desc = .arr n e s) : P.underlying t = some (.array n e) ∧ ∀ w, (sizeOf e).run P w = .ok s w := by
  have h1 := hty.desc h
  rw [hd] at h1
  simp only [descOk, Bool.and_eq_true] at h1
  obtain ⟨h1, h2⟩ := h1
  refine ⟨?_, fun w => ?_⟩
  · split at h1
    · rename_i hu; simp only [beq_iff_eq, Bool.and_eq_true] at h1; rw [hu, h1.1, h1.2]
    · cases h1
  · split at h2
    · rename_i info hu; simp only [beq_iff_eq] at h2; simp [sizeOf, typeInfo, hu, h2]
    · cases h2
theorem TyOk.arrayInfo {t n e s : Nat} {i : TI} (h : ty t = some i) (hd : i.desc = .arr n e s) : P.underlying t = some (.array n e) ∧ ∃ info, P.info? e = some info ∧ info.size = s := by
  refine ⟨(hty.array h hd).1, ?_⟩
  have h1 := hty.desc h
  rw [hd] at h1
  simp only [descOk, Bool.and_eq_true] at h1
  obtain ⟨_, h2⟩ := h1
  split at h2
  · rename_i info hu; simp only [beq_iff_eq] at h2; exact ⟨info, hu, h2⟩
  · cases h2
theorem TyOk.struct {t : Nat} {i : TI} {fs : List (Nat × Nat × Nat)} (h : ty t = some i) (hd : i.desc = .st fs) :
    ∃ fields, P.underlying t = some (.struct fields) ∧ fields.toList.map (fun f => (f.offset, f.type, (P.info? f.type).map (·.size))) = fs.map (fun r => (r.1, r.2.1, some r.2.2)) := by
  have h1 := hty.desc h
  rw [hd] at h1
  simp only [descOk] at h1
  split at h1
  · rename_i fields hu; simp only [beq_iff_eq] at h1; exact ⟨fields, hu, h1⟩
  · cases h1
theorem TyOk.field {t f : Nat} {i : TI} {fs : List (Nat × Nat × Nat)} {r : Nat × Nat × Nat} (h : ty t = some i) (hd : i.desc = .st fs) (hf : fs[f]? = some r) :
    ∃ fields fd, P.underlying t = some (.struct fields) ∧ fields[f]? = some fd ∧ fd.offset = r.1 ∧ fd.type = r.2.1 ∧ ∀ w, (sizeOf fd.type).run P w = .ok r.2.2 w := by
  obtain ⟨fields, hu, he⟩ := hty.struct h hd
  have h1 : (fs.map (fun r => (r.1, r.2.1, some r.2.2)))[f]? = some (r.1, r.2.1, some r.2.2) := by simp [hf]
  rw [← he, List.getElem?_map, Option.map_eq_some_iff] at h1
  obtain ⟨fd, h2, h3⟩ := h1
  simp only [Prod.mk.injEq] at h3
  obtain ⟨e1, e2, e3⟩ := h3
  refine ⟨fields, fd, hu, by simpa using h2, e1, e2, fun w => ?_⟩
  simp only [Option.map_eq_some_iff] at e3
  obtain ⟨info, i1, i2⟩ := e3
  simp [sizeOf, typeInfo, i1, i2]
theorem TyOk.int {t : Nat} {k : IntKind} {i : TI} (h : ty t = some i) (hd : i.desc = .int k) : P.underlying t = some (.int k) := by
  have h1 := hty.desc h
  rw [hd] at h1
  simp only [descOk] at h1
  split at h1
  · rename_i hu; simp only [beq_iff_eq] at h1; rw [hu, h1]
  · cases h1
end

theorem RD.of_isVal (fz : Nat → Nat → Prop) (w : World) (x : D) (v : Value) (h : x.isVal v = true) : RD fz w x v ∧ v.oneCell' = true ∧ x.one = true := by
  cases x <;> simp only [D.isVal] at h <;> first | (cases h; done) | skip
  case bool => split at h <;> first | (cases h; done) | (simp only [beq_iff_eq] at h; subst h; exact ⟨.bool _, rfl, rfl⟩)
  case int => split at h <;> first | (cases h; done) | (simp only [beq_iff_eq, Bool.and_eq_true] at h; obtain ⟨rfl, rfl⟩ := h; exact ⟨.int _ _, rfl, rfl⟩)
  case str => split at h <;> first | (cases h; done) | (simp only [beq_iff_eq] at h; exact ⟨.str _ _ h, rfl, rfl⟩)
  all_goals (split at h <;> first | (cases h; done) | exact ⟨by constructor, rfl, rfl⟩)
theorem RV.of_isVal (γ : Gh) (S : St) (w : World) (x : V) (v : Value) (h : x.isVal v = true) : RV γ S w x v ∧ v.oneCell' = true := by
  unfold V.isVal at h
  split at h
  · split at h <;> first | (cases h; done) | skip
    exact ⟨.nil, rfl⟩
  · have := RD.of_isVal γ.fz w _ _ h
    exact ⟨.d _ _ this.1, this.2.1⟩
  · cases h
theorem RV.of_areVals (γ : Gh) (S : St) (w : World) : ∀ (xs : List V) (vs : List Value), areVals xs vs = true →
    vs.length = xs.length ∧ ∀ (j : Nat) (y : V) (u : Value), xs[j]? = some y → vs[j]? = some u → u.oneCell' = true ∧ RV γ S w y u := by
  intro xs
  induction xs with
  | nil => intro vs h; cases vs with
    | nil => exact ⟨rfl, fun j y u hy => by simp at hy⟩
    | cons v vs => simp [areVals] at h
  | cons x xs ih => intro vs h; cases vs with
    | nil => simp [areVals] at h
    | cons v vs =>
      simp only [areVals, Bool.and_eq_true] at h
      obtain ⟨h1, h2⟩ := h
      obtain ⟨i1, i2⟩ := ih vs h2
      refine ⟨by simp [i1], fun j y u hy hu => ?_⟩
      cases j with
      | zero => simp at hy hu; subst hy; subst hu; exact ⟨(RV.of_isVal γ S w x v h1).2, (RV.of_isVal γ S w x v h1).1⟩
      | succ j => simp at hy hu; exact i2 j y u hy hu

end Go.Wm
