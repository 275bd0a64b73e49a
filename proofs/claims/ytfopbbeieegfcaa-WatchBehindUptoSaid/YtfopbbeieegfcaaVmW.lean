/-
  A part of the proof: an abstract run of the program, shown to be what the model does, and what it comes to.
-/
import Derived.Test.YtfopbbeieegfcaaVmV
set_option linter.unusedVariables false
set_option linter.unusedSimpArgs false
set_option linter.unusedSectionVars false
set_option linter.unnecessarySimpa false
namespace Go.Vm
open Go

/-! ## whole functions -/
def evRes (E : Env) (T : Tm) (S : St) : List ResultVar → Option (List V)
  | [] => some []
  | .tmp t :: r => (evRes E T S r).map (T.get t :: ·)
  | .cell a t :: r => (ldV E t S (T.get a)).bind fun v => (evRes E T S r).map (v :: ·)
def oneOf : List V → V
  | [x] => x
  | l => .tup l
def finish (base : Nat) (v : V) (S : St) : Option (V × St) :=
  let ids := reached base v.refs S
  if nodupB ids then (v.unren (posOf ids)).bind fun v => (focus (posOf ids) S ids).map fun S => (v, S) else none
def argsT : List V → Nat → Tm
  | [], _ => []
  | v :: r, i => (i, v) :: argsT r (i + 1)
def endOf : Ex → Bool
  | .exit _ => false
  | _ => true
def V.cast (fz : Bool) (v : V) : V := if fz then v.freeze else v
def evFn (E : Env) (fz : Bool) (results : List ResultVar) (c : Code) (args : List V) (S : St) : Option (V × St) :=
  (evCode E S.length c (argsT args 0) S).bind fun q =>
    if endOf q.2.2 then (evRes E q.1 q.2.1 results).bind fun rs => finish S.length ((oneOf rs).cast fz) q.2.1 else none

section
variable {P : Program} {E : Env} {n : Nat} {γ : Gh} {S : St} {w : World} {T : Tm} {a : Act}

theorem argsT_get : ∀ (l : List V) (s i : Nat), (argsT l s).get i = if s ≤ i then (l[i - s]?).getD .any else .any
  | [], s, i => by simp [argsT, Tm.get]
  | v :: r, s, i => by
    simp only [argsT, Tm.get, argsT_get r (s + 1) i]
    by_cases h : s = i
    · subst h; simp
    · rw [if_neg h]
      by_cases h2 : s ≤ i
      · rw [if_pos (by omega), if_pos h2]
        have : i - s = (i - (s + 1)) + 1 := by omega
        rw [this]; simp
      · rw [if_neg (by omega), if_neg h2]

theorem evRes_ok (hty : TyOk P E.ty) (hI : Inv γ S w) (hT : RT n γ S w T a) : ∀ {l : List ResultVar} {rs : List V}, evRes E T S l = some rs →
    ∃ vs : List Value, (l.mapM (m := Sem) fun | .tmp t => pure (a.tmps.getD t undef) | .cell x t => do loadVar t (← asAddr (a.tmps.getD x undef))).run P w = .ok vs w ∧ vs.length = rs.length ∧
      ∀ (j : Nat) (y : V) (v : Value), rs[j]? = some y → vs[j]? = some v → RV γ S w y v
  | [], rs, h => by
    simp only [evRes, Option.some.injEq] at h
    subst h
    exact ⟨[], by simp, rfl, fun j y v h => by simp at h⟩
  | .tmp t :: r, rs, h => by
    simp only [evRes, Option.map_eq_some_iff] at h
    obtain ⟨ss, h, rfl⟩ := h
    obtain ⟨vs, h1, h2, h3⟩ := evRes_ok hty hI hT h
    refine ⟨a.tmps.getD t undef :: vs, ?_, by simp [h2], fun j y v hy hv => ?_⟩
    · rw [List.mapM_cons, Sem.run_bind, Sem.run_pure, Result.andThen_ok, Sem.run_bind, h1]
      rfl
    · cases j with
      | zero => simp only [List.getElem?_cons_zero, Option.some.injEq] at hy hv; subst hy hv; exact hT.get t
      | succ j => simp at hy hv; exact h3 j y v hy hv
  | .cell x t :: r, rs, h => by
    simp only [evRes] at h
    cases hl : ldV E t S (T.get x) with
    | none => simp [hl] at h
    | some y0 =>
      simp only [hl, Option.bind_some, Option.map_eq_some_iff] at h
      obtain ⟨ss, h, rfl⟩ := h
      obtain ⟨vs, h1, h2, h3⟩ := evRes_ok hty hI hT h
      obtain ⟨u, g1, g2⟩ := ldV_ok hty hI rfl hl (hT.get x)
      refine ⟨u :: vs, ?_, by simp [h2], fun j y v hy hv => ?_⟩
      · have hload : ((do loadVar t (← asAddr (a.tmps.getD x undef)) : Sem Value)).run P w = .ok u w := by
          cases hx : a.tmps.getD x undef with
          | pointer p =>
            rw [hx] at g1
            cases p with
            | none => simp [Instr.loadAt, Instr.sureAddr, stuck] at g1
            | some p => simpa [Instr.loadAt, Instr.sureAddr, asAddr] using g1
          | _ => rw [hx] at g1; simp [Instr.loadAt, Instr.sureAddr, stuck] at g1
        rw [List.mapM_cons, Sem.run_bind, hload, Result.andThen_ok, Sem.run_bind, h1]
        rfl
      · cases j with
        | zero => simp at hy hv; subst hy hv; exact g2
        | succ j => simp at hy hv; exact h3 j y v hy hv

theorem results_ok (hty : TyOk P E.ty) (hI : Inv γ S w) (hT : RT n γ S w T a) {fn : Func} {rs : List V} (h : evRes E T S fn.results.toList = some rs) :
    ∃ v, (results fn a.tmps).run P w = .ok v w ∧ RV γ S w (oneOf rs) v := by
  obtain ⟨vs, h1, h2, h3⟩ := evRes_ok hty hI hT h
  have hm : (results fn a.tmps).run P w = .ok (if h : vs.toArray.size = 1 then vs.toArray[0] else .tuple vs.toArray) w := by
    unfold results
    rw [Sem.run_bind, Array.mapM_eq_mapM_toList, Sem.run_map]
    exact congrArg (fun r : Result (List Value) => (r.andThen fun a w' => Result.ok a.toArray w').andThen fun a w' => Sem.run P (pure (if h : a.size = 1 then a[0] else Value.tuple a)) w') h1
  refine ⟨_, hm, ?_⟩
  match rs, vs, h2, h3 with
  | [], [], _, _ => exact .tup _ _ rfl fun j y v h => by simp at h
  | [x], [u], _, h3 => exact h3 0 x u rfl rfl
  | x :: y :: r, u :: v :: vs, h2, h3 =>
    have hne : ¬ (u :: v :: vs).toArray.size = 1 := by simp
    rw [dif_neg hne]
    exact .tup _ _ (by simpa using h2) fun j z t hz ht => h3 j z t hz (by simpa using ht)

theorem finish_ok {m base : Nat} {γ0 : Gh} {S0 S1 : St} {w0 : World} {x y : V} {v : Value} (h : finish base x S = some (y, S1)) (hI : Inv γ S w) (hx : RV γ S w x v) (hm : m ≤ base) (he : Ext m γ0 S0 w0 γ S w) :
    ∃ γ', Inv γ' S1 w ∧ Ext m γ0 S0 w0 γ' S1 w ∧ RV γ' S1 w y v := by
  unfold finish at h
  simp only at h
  split at h <;> first | (cases h; done) | skip
  rename_i hn
  cases hv : x.unren (posOf (reached base x.refs S)) with
  | none => simp [hv] at h
  | some z =>
    simp only [hv, Option.bind_some, Option.map_eq_some_iff, Prod.mk.injEq] at h
    obtain ⟨S2, hf, rfl, rfl⟩ := h
    exact ⟨_, hI.part (nodup_of_nodupB hn) hf, he.part (fun k hk => reached_range k (by omega)) hf, hx.part hf hv⟩

/-- a function's own specification is what its code computes -/
theorem evFn_ok (hty : TyOk P E.ty) (hcall : CallOk P E) (hm : P.follows .mixedOrders = true) {f : Nat} {fn : Func} {c : Code} (hf : P.funcs[f]? = some fn) (hb : fn.body = some c) {fz : Bool} (hs : statOk fn.ntmps c = true)
    {args : List V} (ha : args.length ≤ fn.ntmps) {r : V} {S' : St} (h : evFn E fz fn.results.toList c args S = some (r, S')) : CallsV P f args S fun r' S'' => r' = r ∧ S'' = S' := by
  intro γ w vs hI hA
  unfold evFn at h
  cases hc : evCode E S.length c (argsT args 0) S with
  | none => simp [hc] at h
  | some q =>
    obtain ⟨T1, S1, e⟩ := q
    simp only [hc, Option.bind_some] at h
    split at h <;> first | (cases h; done) | skip
    rename_i hend
    cases hr : evRes E T1 S1 fn.results.toList with
    | none => simp [hr] at h
    | some rs =>
      simp only [hr, Option.bind_some] at h
      refine calls_of_wp hf hb ?_
      have hT : RT fn.ntmps γ S w (argsT args 0) { tmps := vs ++ Array.replicate (fn.ntmps - vs.size) undef, defers := [] } := by
        have hsz := hA.1
        refine ⟨by simp; omega, rfl, fun i => ?_⟩
        rw [argsT_get]
        simp only [Nat.zero_le, if_true, Nat.sub_zero]
        cases hi : args[i]? with
        | none => exact .any _
        | some y =>
          have hlt := (List.getElem?_eq_some_iff.1 hi).1
          have hv : vs[i]? = some (vs[i]'(by omega)) := Array.getElem?_eq_getElem _
          have : (vs ++ Array.replicate (fn.ntmps - vs.size) undef).getD i undef = vs[i]'(by omega) := by
            rw [Array.getD_eq_getD_getElem?, Array.getElem?_append_left (by omega), hv]
            rfl
          simp only [this, Option.getD_some]
          exact hA.2 i y _ hi hv
      refine evCode_ok hty hcall hm hc hs S.length γ S w (Nat.le_refl _) γ w _ _ hI hT (Ext.refl (Nat.le_refl _)) fun γ' w' a' k1 k2 k3 => ?_
      obtain ⟨v, g1, g2⟩ := results_ok hty k1 k3 hr
      have g2' : RV γ' S1 w' ((oneOf rs).cast fz) v := by
        unfold V.cast
        split
        · exact g2.freeze
        · exact g2
      obtain ⟨γ2, j1, j2, j3⟩ := finish_ok h k1 g2' (Nat.le_refl _) k2
      have hq : a'.defers = [] ∧ ∃ v, (results fn a'.tmps).run P w' = .ok v w' ∧ ∃ v_1 r_1 γ' S', Ending.returned v = .returned v_1 ∧ (r_1 = r ∧ S' = S') ∧ Inv γ' S' w' ∧ Ext S.length γ S w γ' S' w' ∧ RV γ' S' w' r_1 v_1 :=
        ⟨k3.defers, v, g1, v, r, γ2, S', rfl, ⟨rfl, rfl⟩, j1, j2, j3⟩
      cases e with
      | exit id => simp [endOf] at hend
      | normal => exact ⟨k3.defers, v, g1, v, r, γ2, S', rfl, ⟨rfl, rfl⟩, j1, j2, j3⟩
      | ret => exact ⟨k3.defers, v, g1, v, r, γ2, S', rfl, ⟨rfl, rfl⟩, j1, j2, j3⟩
end
end Go.Vm
