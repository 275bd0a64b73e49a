/-
  A part of the proof: an abstract run of the program, shown to be what the model does, and what it comes to.
-/
import Derived.Test.YtmfjfejjegemaaaGreatDoorWmV
set_option linter.unusedVariables false
set_option linter.unusedSimpArgs false
set_option linter.unnecessarySimpa false
set_option linter.defProp false
set_option linter.unusedSectionVars false
namespace Go.Wm
open Go
variable [GlobReq]
noncomputable section

/-! ## whole functions -/
def evRes (E : Env) (T : Tm) (S : St) : List ResultVar → Option (List V)
  | [] => some []
  | .tmp t :: r => (evRes E T S r).map (T.get t :: ·)
  | .cell a t :: r => (ldV E t S (T.get a)).bind fun v => (evRes E T S r).map (v :: ·)
def oneOf : List V → V
  | [x] => x
  | l => .tup l
def finish (base : Nat) (v : V) (S : St) : Option (V × St) :=
  let ids := reached base v.refs S
  if nodupB ids then (v.unren (posOf ids)).bind fun v => (focus (posOf ids) S ids).map fun S => (v, S) else none
def argsT : List V → Nat → Tm
  | [], _ => []
  | v :: r, i => (i, v) :: argsT r (i + 1)
def endOf : Ex → Bool
  | .exit _ => false
  | _ => true
def swap (k n : Nat) (o : Nat) : Nat := if o = k then n else o
/-- a row of the caller's under a new number -/
def moveR (k : Nat) (v : V) (S : St) : V × St :=
  match S[k]? with
  | some (.row e sz xs) => (v.ren (swap k S.length), (S.map (AObj.ren (swap k S.length))).set k .gone ++ [.row e sz xs])
  | some (.fro _ _ _) => (v, S.set k .gone)
  | _ => (v, S)
def castM : Nat → V → St → V × St
  | 0, v, S => (v, S)
  | k + 1, v, S => moveR k (castM k v S).1 (castM k v S).2
/-- what is handed back: as it is (0), as data (1), in rows of its own (2) -/
def castS (fz : Nat) (base : Nat) (v : V) (S : St) : V × St :=
  match fz with
  | 0 => (v, S)
  | 1 => ((v.look (applyW S (frzW S v.refs))).freeze, applyW S (frzW S v.refs))
  | _ => castM base v S

theorem Keep.renSame {γ γ' : Gh} {w : World} {o : Nat} {σ : Nat → Nat} (ob : AObj) (hmu : γ'.mu o = γ.mu o) : Keep γ w γ' w o ob (some (ob.ren σ)) := by
  cases ob with
  | box cs => exact ⟨hmu, _, rfl⟩
  | _ => exact Keep.refl _ hmu fun _ _ => rfl

theorem moveR_ok {γ : Gh} {S : St} {w : World} {x : V} {v : Value} (k : Nat) (hI : Inv γ S w) (hx : RV γ S w x v) :
    ∃ γ', Inv γ' (moveR k x S).2 w ∧ Ext S.length γ S w γ' (moveR k x S).2 w ∧ RV γ' (moveR k x S).2 w (moveR k x S).1 v := by
  unfold moveR
  split
  · rename_i e sz xs hk
    have hlt := (List.getElem?_eq_some_iff.1 hk).1
    generalize hσ : swap k S.length = σ
    have hσk : σ k = S.length := by rw [← hσ]; simp [swap]
    have hσo : ∀ o, o ≠ k → σ o = o := fun o ho => by rw [← hσ]; simp [swap, ho]
    let γ' : Gh := { mu := fun o => if o = S.length then γ.mu k else if o = k then none else γ.mu o, fz := γ.fz, gl := γ.gl }
    have hmul : γ'.mu S.length = γ.mu k := by simp [γ']
    have hmuk : γ'.mu k = none := by simp [γ', Nat.ne_of_lt hlt]
    have hmuo : ∀ o, o < S.length → o ≠ k → γ'.mu o = γ.mu o := fun o h1 h2 => by simp [γ', Nat.ne_of_lt h1, h2]
    have hget : ∀ o, o < S.length → ((S.map (AObj.ren σ)).set k AObj.gone ++ [AObj.row e sz xs])[o]? = if k = o then some .gone else (S[o]?).map (AObj.ren σ) := fun o ho => by
      rw [List.getElem?_append_left (by simpa using ho), List.getElem?_set' _ _ _ _ (by simpa using hlt), List.getElem?_map]
    have hlast : ((S.map (AObj.ren σ)).set k AObj.gone ++ [AObj.row e sz xs])[S.length]? = some (.row e sz xs) := by
      rw [List.getElem?_append_right (by simp)]; simp
    have hmor : Mor σ γ S γ' ((S.map (AObj.ren σ)).set k .gone ++ [.row e sz xs]) := ⟨rfl, fun o ob ho => by
      have hol := (List.getElem?_eq_some_iff.1 ho).1
      by_cases hok : o = k
      · subst hok
        rw [hk] at ho
        cases ho
        rw [hσk]
        exact ⟨hmul.symm, hlast⟩
      · rw [hσo o hok]
        refine ⟨(hmuo o hol hok).symm, ?_⟩
        rw [hget o hol, if_neg (Ne.symm hok), ho]
        rfl⟩
    have he : Ext S.length γ S w γ' ((S.map (AObj.ren σ)).set k .gone ++ [.row e sz xs]) w := by
      refine ⟨Nat.le_refl _, by simp, fun _ _ h => h, fun _ _ _ => rfl, Nat.le_refl _, fun o ob ho hob => ?_, fun _ _ _ => rfl, fun b ⟨o, ho, hb⟩ => ?_, fun _ _ h => .inl h, rfl, rfl, rfl, rfl⟩
      · rw [hget o ho]
        by_cases hok : k = o
        · subst hok
          rw [hk] at hob
          cases hob
          exact .inl (by simp)
        · rw [if_neg hok, hob]
          exact Keep.renSame ob (hmuo o ho (Ne.symm hok))
      · simp only [List.length_append, List.length_set, List.length_map, List.length_cons, List.length_nil] at ho
        by_cases h1 : o = S.length
        · subst h1; rw [hmul] at hb; exact .inl ⟨k, hlt, hb⟩
        · by_cases h2 : o = k
          · subst h2; rw [hmuk] at hb; cases hb
          · rw [hmuo o (by omega) h2] at hb; exact .inl ⟨o, by omega, hb⟩
    have hok := hI.obj k _ hk
    refine ⟨γ', ⟨fun o ob hob => ?_, fun o o' b h1 h2 h3 h4 => ?_, hI.fzin, fun o b ho hb => ?_, hI.gl_ext he⟩, he, hx.ren hmor⟩
    · have hol := (List.getElem?_eq_some_iff.1 hob).1
      simp only [List.length_append, List.length_set, List.length_map, List.length_cons, List.length_nil] at hol
      by_cases h1 : o = S.length
      · subst h1
        rw [hlast] at hob
        cases hob
        exact ⟨fun hn => hok.1 (hmul ▸ hn), fun b hb => hok.2 b (hmul ▸ hb)⟩
      · have hol' : o < S.length := by omega
        rw [hget o hol'] at hob
        by_cases h2 : k = o
        · subst h2
          rw [if_pos rfl] at hob
          cases hob
          exact hmuk
        · rw [if_neg h2, Option.map_eq_some_iff] at hob
          obtain ⟨ob0, hob0, rfl⟩ := hob
          have hoo := hI.obj o _ hob0
          have hm := hmuo o hol' (Ne.symm h2)
          cases ob0 with
          | box cs =>
            obtain ⟨b, vs, el, g1, g2, g3, g4, g5⟩ := hoo
            refine ⟨b, vs, el, hm.trans g1, g2, by rw [V.renL_length]; exact g3, fun i y v hy hv => ?_, g5⟩
            rw [V.renL_get, Option.map_eq_some_iff] at hy
            obtain ⟨z, hz, rfl⟩ := hy
            exact ⟨(g4 i z v hz hv).1, (g4 i z v hz hv).2.ren hmor⟩
          | _ => exact ObjOk.mono hoo he hm fun b _ => ⟨rfl, fun _ h => h⟩
    · simp only [List.length_append, List.length_set, List.length_map, List.length_cons, List.length_nil] at h1 h2
      have key : ∀ i, i < S.length + 1 → γ'.mu i = some b → (i = S.length ∧ γ.mu k = some b) ∨ (i < S.length ∧ i ≠ k ∧ γ.mu i = some b) := fun i hi hb => by
        by_cases k1 : i = S.length
        · subst k1; exact .inl ⟨rfl, hmul ▸ hb⟩
        · by_cases k2 : i = k
          · subst k2; rw [hmuk] at hb; cases hb
          · exact .inr ⟨by omega, k2, (hmuo i (by omega) k2) ▸ hb⟩
      rcases key o h1 h3 with ⟨rfl, a1⟩ | ⟨a0, a1, a2⟩ <;> rcases key o' h2 h4 with ⟨rfl, b1⟩ | ⟨b0, b1, b2⟩
      · rfl
      · exact absurd (hI.inj k o' b hlt b0 a1 b2).symm b1
      · exact absurd (hI.inj k o b hlt a0 b1 a2).symm a1
      · exact hI.inj o o' b a0 b0 a2 b2
    · simp only [List.length_append, List.length_set, List.length_map, List.length_cons, List.length_nil] at ho
      by_cases k1 : o = S.length
      · subst k1; exact hI.lt k b hlt (hmul ▸ hb)
      · by_cases k2 : o = k
        · subst k2; rw [hmuk] at hb; cases hb
        · exact hI.lt o b (by omega) ((hmuo o (by omega) k2) ▸ hb)
  · rename_i e sz xs hk
    obtain ⟨h1, h2⟩ := renew (γ' := γ.at k none) (w' := w) hI hk .gone (fun j hj => by simp [Gh.at, hj]) (fun b hb => by simp [Gh.at] at hb) (fun _ _ => rfl) (Nat.le_refl _) (fun _ _ h => h) (fun _ _ h => .inl h) rfl rfl rfl (.inl rfl) (fun _ => by simp [ObjOk, Gh.at])
    exact ⟨_, h1, h2, hx.mono h2⟩
  · exact ⟨γ, hI, Ext.refl (Nat.le_refl _), hx⟩

theorem castM_ok {w : World} {v : Value} : ∀ (n : Nat) {γ : Gh} {S : St} {x : V}, Inv γ S w → RV γ S w x v → ∃ γ', Inv γ' (castM n x S).2 w ∧ Ext S.length γ S w γ' (castM n x S).2 w ∧ RV γ' (castM n x S).2 w (castM n x S).1 v
  | 0, γ, S, x, hI, hx => ⟨γ, hI, Ext.refl (Nat.le_refl _), hx⟩
  | n + 1, γ, S, x, hI, hx => by
    obtain ⟨γ1, h1, h2, h3⟩ := castM_ok n hI hx
    obtain ⟨γ2, k1, k2, k3⟩ := moveR_ok n h1 h3
    exact ⟨γ2, k1, h2.trans (k2.less h2.len'), k3⟩
def evFn (E : Env) (fz : Nat) (results : List ResultVar) (c : Code) (args : List V) (S : St) : Option (V × St) :=
  (evCode E S.length c (argsT args 0) S).bind fun q =>
    if endOf q.2.2 then (evRes E q.1 q.2.1 results).bind fun rs => finish S.length (castS fz S.length (oneOf rs) q.2.1).1 (castS fz S.length (oneOf rs) q.2.1).2 else none

section
variable {P : Program} {E : Env} {n : Nat} {γ : Gh} {S : St} {w : World} {T : Tm} {a : Act}

theorem argsT_get : ∀ (l : List V) (s i : Nat), (argsT l s).get i = if s ≤ i then (l[i - s]?).getD .any else .any
  | [], s, i => by simp [argsT, Tm.get]
  | v :: r, s, i => by
    simp only [argsT, Tm.get, argsT_get r (s + 1) i]
    by_cases h : s = i
    · subst h; simp
    · rw [if_neg h]
      by_cases h2 : s ≤ i
      · rw [if_pos (by omega), if_pos h2]
        have : i - s = (i - (s + 1)) + 1 := by omega
        rw [this]; simp
      · rw [if_neg (by omega), if_neg h2]

theorem evRes_ok (hty : TyOk P E.ty) (hI : Inv γ S w) (hT : RT n γ S w T a) : ∀ {l : List ResultVar} {rs : List V}, evRes E T S l = some rs →
    ∃ vs : List Value, (l.mapM (m := Sem) fun | .tmp t => pure (a.tmps.getD t undef) | .cell x t => do loadVar t (← asAddr (a.tmps.getD x undef))).run P w = .ok vs w ∧ vs.length = rs.length ∧
      ∀ (j : Nat) (y : V) (v : Value), rs[j]? = some y → vs[j]? = some v → RV γ S w y v
  | [], rs, h => by
    simp only [evRes, Option.some.injEq] at h
    subst h
    exact ⟨[], by simp, rfl, fun j y v h => by simp at h⟩
  | .tmp t :: r, rs, h => by
    simp only [evRes, Option.map_eq_some_iff] at h
    obtain ⟨ss, h, rfl⟩ := h
    obtain ⟨vs, h1, h2, h3⟩ := evRes_ok hty hI hT h
    refine ⟨a.tmps.getD t undef :: vs, ?_, by simp [h2], fun j y v hy hv => ?_⟩
    · rw [List.mapM_cons, Sem.run_bind, Sem.run_pure, Result.andThen_ok, Sem.run_bind, h1]
      rfl
    · cases j with
      | zero => simp only [List.getElem?_cons_zero, Option.some.injEq] at hy hv; subst hy hv; exact hT.get t
      | succ j => simp at hy hv; exact h3 j y v hy hv
  | .cell x t :: r, rs, h => by
    simp only [evRes] at h
    cases hl : ldV E t S (T.get x) with
    | none => simp [hl] at h
    | some y0 =>
      simp only [hl, Option.bind_some, Option.map_eq_some_iff] at h
      obtain ⟨ss, h, rfl⟩ := h
      obtain ⟨vs, h1, h2, h3⟩ := evRes_ok hty hI hT h
      obtain ⟨u, g1, g2⟩ := ldV_ok hty hI rfl hl (hT.get x)
      refine ⟨u :: vs, ?_, by simp [h2], fun j y v hy hv => ?_⟩
      · have hload : ((do loadVar t (← asAddr (a.tmps.getD x undef)) : Sem Value)).run P w = .ok u w := by
          cases hx : a.tmps.getD x undef with
          | pointer p =>
            rw [hx] at g1
            cases p with
            | none => simp [Instr.loadAt, Instr.sureAddr, stuck] at g1
            | some p => simpa [Instr.loadAt, Instr.sureAddr, asAddr] using g1
          | _ => rw [hx] at g1; simp [Instr.loadAt, Instr.sureAddr, stuck] at g1
        rw [List.mapM_cons, Sem.run_bind, hload, Result.andThen_ok, Sem.run_bind, h1]
        rfl
      · cases j with
        | zero => simp at hy hv; subst hy hv; exact g2
        | succ j => simp at hy hv; exact h3 j y v hy hv

theorem results_ok (hty : TyOk P E.ty) (hI : Inv γ S w) (hT : RT n γ S w T a) {fn : Func} {rs : List V} (h : evRes E T S fn.results.toList = some rs) :
    ∃ v, (results fn a.tmps).run P w = .ok v w ∧ RV γ S w (oneOf rs) v := by
  obtain ⟨vs, h1, h2, h3⟩ := evRes_ok hty hI hT h
  have hm : (results fn a.tmps).run P w = .ok (if h : vs.toArray.size = 1 then vs.toArray[0] else .tuple vs.toArray) w := by
    unfold results
    rw [Sem.run_bind, Array.mapM_eq_mapM_toList, Sem.run_map]
    exact congrArg (fun r : Result (List Value) => (r.andThen fun a w' => Result.ok a.toArray w').andThen fun a w' => Sem.run P (pure (if h : a.size = 1 then a[0] else Value.tuple a)) w') h1
  refine ⟨_, hm, ?_⟩
  match rs, vs, h2, h3 with
  | [], [], _, _ => exact .tup _ _ rfl fun j y v h => by simp at h
  | [x], [u], _, h3 => exact h3 0 x u rfl rfl
  | x :: y :: r, u :: v :: vs, h2, h3 =>
    have hne : ¬ (u :: v :: vs).toArray.size = 1 := by simp
    rw [dif_neg hne]
    exact .tup _ _ (by simpa using h2) fun j z t hz ht => h3 j z t hz (by simpa using ht)

theorem finish_ok {m base : Nat} {γ0 : Gh} {S0 S1 : St} {w0 : World} {x y : V} {v : Value} (h : finish base x S = some (y, S1)) (hI : Inv γ S w) (hx : RV γ S w x v) (hm : m ≤ base) (he : Ext m γ0 S0 w0 γ S w) :
    ∃ γ', Inv γ' S1 w ∧ Ext m γ0 S0 w0 γ' S1 w ∧ RV γ' S1 w y v := by
  unfold finish at h
  simp only at h
  split at h <;> first | (cases h; done) | skip
  rename_i hn
  cases hv : x.unren (posOf (reached base x.refs S)) with
  | none => simp [hv] at h
  | some z =>
    simp only [hv, Option.bind_some, Option.map_eq_some_iff, Prod.mk.injEq] at h
    obtain ⟨S2, hf, rfl, rfl⟩ := h
    exact ⟨_, hI.part (nodup_of_nodupB hn) hf, he.part (fun k hk => reached_range k (by omega)) hf, hx.part hf hv⟩

/-- a function's own specification is what its code computes -/
theorem evFn_ok (hty : TyOk P E.ty) (hcall : CallOk P E) (hm : P.follows .mixedOrders = true) {f : Nat} {fn : Func} {c : Code} (hf : P.funcs[f]? = some fn) (hb : fn.body = some c) {fz : Nat} (hs : statOk fn.ntmps c = true)
    {args : List V} (ha : args.length ≤ fn.ntmps) {r : V} {S' : St} (h : evFn E fz fn.results.toList c args S = some (r, S')) : CallsV P f args S fun r' S'' => r' = r ∧ S'' = S' := by
  intro γ w vs hI hA
  unfold evFn at h
  cases hc : evCode E S.length c (argsT args 0) S with
  | none => simp [hc] at h
  | some q =>
    obtain ⟨T1, S1, e⟩ := q
    simp only [hc, Option.bind_some] at h
    split at h <;> first | (cases h; done) | skip
    rename_i hend
    cases hr : evRes E T1 S1 fn.results.toList with
    | none => simp [hr] at h
    | some rs =>
      simp only [hr, Option.bind_some] at h
      refine calls_of_wp hf hb ?_
      have hT : RT fn.ntmps γ S w (argsT args 0) { tmps := vs ++ Array.replicate (fn.ntmps - vs.size) undef, defers := [] } := by
        have hsz := hA.1
        refine ⟨by simp; omega, rfl, fun i => ?_⟩
        rw [argsT_get]
        simp only [Nat.zero_le, if_true, Nat.sub_zero]
        cases hi : args[i]? with
        | none => exact .any _
        | some y =>
          have hlt := (List.getElem?_eq_some_iff.1 hi).1
          have hv : vs[i]? = some (vs[i]'(by omega)) := Array.getElem?_eq_getElem _
          have : (vs ++ Array.replicate (fn.ntmps - vs.size) undef).getD i undef = vs[i]'(by omega) := by
            rw [Array.getD_eq_getD_getElem?, Array.getElem?_append_left (by omega), hv]
            rfl
          simp only [this, Option.getD_some]
          exact hA.2 i y _ hi hv
      refine evCode_ok hty hcall hm hc hs S.length γ S w (Nat.le_refl _) γ w _ _ hI hT (Ext.refl (Nat.le_refl _)) fun γ' w' a' k1 k2 k3 => ?_
      obtain ⟨v, g1, g2⟩ := results_ok hty k1 k3 hr
      obtain ⟨γ3, q1, q2, q3⟩ : ∃ γ3, Inv γ3 (castS fz S.length (oneOf rs) S1).2 w' ∧ Ext S1.length γ' S1 w' γ3 (castS fz S.length (oneOf rs) S1).2 w' ∧ RV γ3 (castS fz S.length (oneOf rs) S1).2 w' (castS fz S.length (oneOf rs) S1).1 v := by
        unfold castS
        split
        · exact ⟨γ', k1, Ext.refl (Nat.le_refl _), g2⟩
        · obtain ⟨γ3, f1, f2⟩ := frz_ok k1 (oneOf rs).refs
          exact ⟨γ3, f1, f2, ((g2.mono f2).look f1).freeze⟩
        · exact castM_ok _ k1 g2
      obtain ⟨γ2, j1, j2, j3⟩ := finish_ok h q1 q3 (Nat.le_refl _) (k2.trans (q2.less k2.len'))
      have hq : a'.defers = [] ∧ ∃ v, (results fn a'.tmps).run P w' = .ok v w' ∧ ∃ v_1 r_1 γ' S', Ending.returned v = .returned v_1 ∧ (r_1 = r ∧ S' = S') ∧ Inv γ' S' w' ∧ Ext S.length γ S w γ' S' w' ∧ RV γ' S' w' r_1 v_1 :=
        ⟨k3.defers, v, g1, v, r, γ2, S', rfl, ⟨rfl, rfl⟩, j1, j2, j3⟩
      cases e with
      | exit id => simp [endOf] at hend
      | normal => exact ⟨k3.defers, v, g1, v, r, γ2, S', rfl, ⟨rfl, rfl⟩, j1, j2, j3⟩
      | ret => exact ⟨k3.defers, v, g1, v, r, γ2, S', rfl, ⟨rfl, rfl⟩, j1, j2, j3⟩
end
end
end Go.Wm
