/-
  A part of the proof: an abstract run of the program, shown to be what the model does, and what it comes to.
-/
import Derived.Test.YtfopbbeieegfcaaVmO
set_option linter.unusedVariables false
set_option linter.unusedSimpArgs false
set_option linter.unusedSectionVars false
set_option linter.unnecessarySimpa false
namespace Go.Vm
open Go

section
variable {P : Program} {E : Env} (hty : TyOk P E.ty) (hcall : CallOk P E) {γ : Gh} {S : St} {w : World} {T : Tm} {a : Act} {n : Nat}

theorem nilV_ok {x y : V} {v : Value} (h : nilV x = some y) (hx : RV γ S w x v) :
    x = y ∧ ((∃ p, v = .pointer (some p)) ∨ ∃ f p q, v = .func (.func f) p q) := by
  unfold nilV at h
  split at h <;> cases h
  · cases hx; exact ⟨rfl, .inl ⟨_, rfl⟩⟩
  · cases hx; exact ⟨rfl, .inl ⟨_, rfl⟩⟩
  · cases hx; exact ⟨rfl, .inr ⟨_, _, _, rfl⟩⟩
  · cases hx with
    | d _ _ hx => cases hx; exact ⟨rfl, .inr ⟨_, _, _, rfl⟩⟩

theorem unV_ok {op : UnOp} {x : V} {r : D} {v : Value} (h : unV op x = some r) (hx : RV γ S w x v) : ∃ u, (Op.unary op v).run P w = .ok u w ∧ RD γ.fz w r u := by
  unfold unV at h
  split at h
  · cases hx with
    | d _ _ hx =>
      cases hx
      split at h <;> cases h
      exact ⟨_, by simp only [Op.unary, Sem.run_pure], .bool _⟩
  · cases hx with
    | d _ _ hx =>
      cases hx
      split at h <;> cases h
      exact ⟨_, by simp only [Op.unary, Op.intArith, Sem.run_pure], .int _ _⟩
  · cases h

theorem extractV_ok {k : Nat} {x y : V} {v : Value} (h : extractV k x = some y) (hx : RV γ S w x v) : ∃ u, (Instr.extract v k).run P w = .ok u w ∧ RV γ S w y u := by
  unfold extractV at h
  split at h
  · cases hx with
    | tup _ vs hl hr =>
      have hk := (List.getElem?_eq_some_iff.1 h).1
      have hv : vs[k]? = some (vs[k]'(by omega)) := Array.getElem?_eq_getElem _
      exact ⟨_, by simp only [Instr.extract, hv]; rfl, hr k y _ h hv⟩
  · cases h

include hty
theorem convV_ok {s d : Nat} {x y : V} {v : Value} (h : convV E s d x = some y) (hx : RV γ S w x v) : ∃ u, (Go.convert s d v).run P w = .ok u w ∧ RV γ S w y u := by
  unfold convV at h
  cases hs : E.ty s with
  | none => simp [hs] at h
  | some i =>
    cases hd : E.ty d with
    | none => simp [hs, hd] at h
    | some j =>
      simp only [hs, hd, Option.bind_some] at h
      obtain ⟨ds, hds⟩ := underlying_of hty hs
      split at h
      · rename_i k k' m hdd
        cases h
        have hP := hty.int hd hdd
        cases hx with
        | d _ _ hx =>
          cases hx
          refine ⟨.int k (k.wrap m), ?_, .d _ _ (.int _ _)⟩
          simp only [Go.convert, Sem.run_bind, run_underlying hds, run_underlying hP, Result.andThen_ok]
          rfl
      · rename_i s' hdd
        cases h
        have hP := hty.desc hd
        rw [hdd] at hP
        simp only [descOk] at hP
        split at hP <;> first | (cases hP; done) | skip
        rename_i hP'
        cases hx with
        | d _ _ hx =>
          cases hx
          refine ⟨.string s', ?_, .d _ _ (.str _)⟩
          simp only [Go.convert, Sem.run_bind, run_underlying hds, run_underlying hP', Result.andThen_ok]
          rfl
      · cases h

theorem indexV_ok {t : Nat} {x y z : V} {v u : Value} (h : indexV E t x y = some z) (hx : RV γ S w x v) (hy : RV γ S w y u) : ∃ r, (Instr.index t v u).run P w = .ok r w ∧ RV γ S w z r := by
  unfold indexV at h
  cases ht : E.ty t with
  | none => simp [ht] at h
  | some i =>
    cases hk : intOf y with
    | none => simp [ht, hk] at h
    | some k =>
      simp only [ht, hk, Option.bind_some] at h
      split at h <;> first | (cases h; done) | skip
      rename_i s hd
      have hP := hty.desc ht
      rw [hd] at hP
      simp only [descOk] at hP
      split at hP <;> first | (cases hP; done) | skip
      rename_i hP'
      split at h <;> first | (cases h; done) | skip
      split at h <;> first | (cases h; done) | skip
      rename_i h0 h1
      simp only [Option.map_eq_some_iff] at h
      obtain ⟨b, hb, rfl⟩ := h
      rw [intOf_ok hk hy]
      cases hx with
      | d _ _ hx =>
        cases hx
        refine ⟨_, ?_, .d _ _ (.int _ _)⟩
        simp [Instr.index, asIntOf, run_underlying hP', h0, hb]

include hcall
theorem evOp_ok (hI : Inv γ S w) (hT : RT n γ S w T a) {at_ : Nat} {o : Oper} {y : V} {W : List (Nat × AObj)} (h : evOp E at_ T S o.op = some (y, W))
    (hat : ∀ j, j < needs E T o.op → S[at_ + j]? = some .dead ∧ γ.mu (at_ + j) = none) {K : Act → World → Prop} {Q : Exit → Act → World → Prop}
    (hK : ∀ u γ' w', Inv γ' (applyW S W) w' → Ext S.length γ S w γ' (applyW S W) w' → RV γ' (applyW S W) w' y u → K (a.put o.dst u) w') : o.wp P a w K Q := by
  have done : ∀ (u : Value), W = [] → (execOp a.eval o).run P w = .ok (.value u) w → RV γ S w y u → o.wp P a w K Q := fun u e h1 h2 => by
    subst e
    exact wp_value h1 (hK u γ w hI (Ext.refl (Nat.le_refl _)) h2)
  have put : ∀ (p : Nat × AObj) (u : Value) (γ' : Gh) (w' : World), W = [p] → (execOp a.eval o).run P w = .ok (.value u) w' → Inv γ' (S.set p.1 p.2) w' → Ext S.length γ S w γ' (S.set p.1 p.2) w' → RV γ' (S.set p.1 p.2) w' y u → o.wp P a w K Q :=
    fun p u γ' w' e h1 h2 h3 h4 => by
      subst e
      exact wp_value h1 (hK u γ' w' h2 h3 h4)
  cases hop : o.op <;> rw [hop] at h hat <;> simp only [evOp] at h <;> first | (cases h; done) | skip
  case move x =>
    simp only [Option.map_eq_some_iff, Prod.mk.injEq] at h
    obtain ⟨v, h, rfl, rfl⟩ := h
    exact done _ rfl (by simp only [execOp, hop]; rfl) (ev_ok hT h)
  case assign x =>
    simp only [Option.map_eq_some_iff, Prod.mk.injEq] at h
    obtain ⟨v, h, rfl, rfl⟩ := h
    exact done _ rfl (by simp only [execOp, hop]; rfl) (ev_ok hT h)
  case pick c x z =>
    cases hc : ev T c with
    | none => simp [hc] at h
    | some vc =>
      cases hb : boolOf vc with
      | none => simp [hc, hb] at h
      | some t =>
        simp only [hc, hb, Option.bind_some, Option.map_eq_some_iff, Prod.mk.injEq] at h
        obtain ⟨v, h, rfl, rfl⟩ := h
        have e := boolOf_ok hb (ev_ok hT hc)
        cases t with
        | true => exact done (a.eval x) rfl (by simp [execOp, hop, e, asBool]) (ev_ok hT (by simpa using h))
        | false => exact done (a.eval z) rfl (by simp [execOp, hop, e, asBool]) (ev_ok hT (by simpa using h))
  case alloc t =>
    simp only [Option.map_eq_some_iff, Prod.mk.injEq] at h
    obtain ⟨i, ht, rfl, rfl⟩ := h
    obtain ⟨g1, g2⟩ := hat 0 (by simp [needs])
    obtain ⟨u, γ', w', h1, h2, h3, h4⟩ := alloc_ok hty hI g1 g2 ht
    exact put _ u γ' w' rfl (by simp [execOp, hop, h1]) h2 h3 h4
  case box t x =>
    cases hx : ev T x with
    | none => simp [hx] at h
    | some v =>
      simp only [hx, Option.bind_some] at h
      split at h <;> cases h
      rename_i hb
      obtain ⟨g1, g2⟩ := hat 0 (by simp [needs])
      obtain ⟨u, γ', w', h1, h2, h3, h4⟩ := box_ok (P := P) (t := t) hI g1 g2 (ev_ok hT hx) hb
      exact put _ u γ' w' rfl (by simp [execOp, hop, h1]) h2 h3 h4
  case build t ps =>
    cases hp : evParts T ps.toList with
    | none => simp [hp] at h
    | some l =>
      simp only [hp, Option.bind_some, Option.map_eq_some_iff, Prod.mk.injEq] at h
      obtain ⟨v, h, rfl, rfl⟩ := h
      obtain ⟨h1, h2⟩ := evParts_ok hT hp
      obtain ⟨u, g1, g2⟩ := buildV_ok (ps := ps.map fun (i, x) => (i, a.eval x)) hty (γ := γ) (S := S) (w := w) rfl h (by
        rw [h1]; simp) (fun j x u hx hu => by
        obtain ⟨z, hz, hr⟩ := h2 j x hx
        have : (ps.map fun (i, x) => (i, a.eval x)).toList[j]? = some (z.1, a.eval z.2) := by simp only [Array.toList_map, List.getElem?_map, hz, Option.map_some]
        rw [this] at hu
        cases hu
        exact hr)
      exact done u rfl (by simp [execOp, hop, g1]) g2
  case buildSlice t k ps =>
    cases hp : evParts T ps.toList with
    | none => simp [hp] at h
    | some l =>
      simp only [hp, Option.bind_some, Option.map_eq_some_iff, Prod.mk.injEq] at h
      obtain ⟨v, h, rfl, rfl⟩ := h
      obtain ⟨h1, h2⟩ := evParts_ok hT hp
      obtain ⟨u, γ', w', g1, g2, g3, g4⟩ := buildSliceV_ok (ps := ps.map fun (i, x) => (i, a.eval x)) hty hI rfl h (by
        rw [h1]; simp) (fun j x u hx hu => by
        obtain ⟨z, hz, hr⟩ := h2 j x hx
        have : (ps.map fun (i, x) => (i, a.eval x)).toList[j]? = some (z.1, a.eval z.2) := by simp only [Array.toList_map, List.getElem?_map, hz, Option.map_some]
        rw [this] at hu
        cases hu
        exact hr)
      exact wp_value (u := u) (by simp [execOp, hop, g1]) (hK u γ' w' g2 g3 g4)
  case load t x =>
    cases hx : ev T x with
    | none => simp [hx] at h
    | some v =>
      simp only [hx, Option.bind_some, Option.map_eq_some_iff, Prod.mk.injEq] at h
      obtain ⟨v', h, rfl, rfl⟩ := h
      obtain ⟨u, g1, g2⟩ := ldV_ok hty hI rfl h (ev_ok hT hx)
      exact done u rfl (by simp [execOp, hop, g1]) g2
  case store t x z =>
    cases hx : ev T x with
    | none => simp [hx] at h
    | some v =>
      cases hz : ev T z with
      | none => simp [hx, hz] at h
      | some v2 =>
        simp only [hx, hz, Option.bind_some, Option.map_eq_some_iff, Prod.mk.injEq] at h
        obtain ⟨p, h, rfl, rfl⟩ := h
        obtain ⟨w', g1, g2, g3⟩ := stV_ok hty hI rfl h (ev_ok hT hx) (ev_ok hT hz)
        unfold Oper.wp
        have : (execOp a.eval o).run P w = .ok .skip w' := by simp [execOp, hop, g1]
        rw [this, Oper.upon_skip]
        exact hK undef γ w' g2 g3 (.any _)
  case nilCheck x =>
    cases hx : ev T x with
    | none => simp [hx] at h
    | some v =>
      simp only [hx, Option.bind_some, Option.map_eq_some_iff, Prod.mk.injEq] at h
      obtain ⟨v', h, rfl, rfl⟩ := h
      have hr := ev_ok hT hx
      obtain ⟨rfl, hv⟩ := nilV_ok h hr
      refine done _ rfl ?_ hr
      rcases hv with ⟨p, hv⟩ | ⟨f, p, q, hv⟩ <;> simp [execOp, hop, hv]
  case binOp op t x z t2 =>
    cases hx : ev T x with
    | none => simp [hx] at h
    | some v =>
      cases hz : ev T z with
      | none => simp [hx, hz] at h
      | some v2 =>
        simp only [hx, hz, Option.bind_some, Option.map_eq_some_iff, Prod.mk.injEq] at h
        obtain ⟨r, h, rfl, rfl⟩ := h
        obtain ⟨u, g1, g2⟩ := binV_ok hty rfl h (ev_ok hT hx) (ev_ok hT hz) x z
        refine done u rfl ?_ (.d _ _ g2)
        have e : (execOp a.eval o) = (do pure (.value (← ((eqGuard op t x z (a.eval x) (a.eval z)).bind fun _ => Go.binOp op t (a.eval x) (a.eval z))))) := by
          simp only [execOp, hop]
          rfl
        rw [e]
        simp [g1]
  case unOp op t x =>
    cases hx : ev T x with
    | none => simp [hx] at h
    | some v =>
      simp only [hx, Option.bind_some, Option.map_eq_some_iff, Prod.mk.injEq] at h
      obtain ⟨r, h, rfl, rfl⟩ := h
      obtain ⟨u, g1, g2⟩ := unV_ok (P := P) h (ev_ok hT hx)
      exact done u rfl (by simp [execOp, hop, g1]) (.d _ _ g2)
  case convert s d x =>
    cases hx : ev T x with
    | none => simp [hx] at h
    | some v =>
      simp only [hx, Option.bind_some, Option.map_eq_some_iff, Prod.mk.injEq] at h
      obtain ⟨r, h, rfl, rfl⟩ := h
      obtain ⟨u, g1, g2⟩ := convV_ok hty h (ev_ok hT hx)
      exact done u rfl (by simp [execOp, hop, g1]) g2
  case makeFunc f p q =>
    cases hp : evs T p.toList with
    | none => simp [hp] at h
    | some vp =>
      cases hq : evs T q.toList with
      | none => simp [hp, hq] at h
      | some vq =>
        simp only [hp, hq, Option.bind_some, Option.map_some, Option.some.injEq, Prod.mk.injEq] at h
        obtain ⟨rfl, rfl⟩ := h
        have h1 := RArgs.of_evs hT hp
        have h2 := RArgs.of_evs hT hq
        refine done (.func f (p.map a.eval) (q.map a.eval)) rfl (by simp [execOp, hop, Instr.makeFunc]) ?_
        unfold fnV
        split
        · rename_i he
          simp only [Bool.and_eq_true, List.isEmpty_iff] at he
          obtain ⟨rfl, rfl⟩ := he
          have e1 : p.map a.eval = #[] := Array.eq_empty_of_size_eq_zero (by simpa using h1.1)
          have e2 : q.map a.eval = #[] := Array.eq_empty_of_size_eq_zero (by simpa using h2.1)
          rw [e1, e2]
          exact .d _ _ (.fn f)
        · exact .fn f vp vq _ _ h1.1 h2.1 h1.2 h2.2
  case slice t x lo hi mx =>
    cases hx : ev T x with
    | none => simp [hx] at h
    | some v =>
      cases hlo : evO T lo with
      | none => simp [hx, hlo] at h
      | some vlo =>
        cases hhi : evO T hi with
        | none => simp [hx, hlo, hhi] at h
        | some vhi =>
          cases hmx : evO T mx with
          | none => simp [hx, hlo, hhi, hmx] at h
          | some vmx =>
            simp only [hx, hlo, hhi, hmx, Option.bind_some, Option.map_eq_some_iff, Prod.mk.injEq] at h
            obtain ⟨r, h, rfl, rfl⟩ := h
            have key : ∀ {l : Option Operand} {vl : Option V}, evO T l = some vl → (∀ z, vl = some z → ∃ u, l.map a.eval = some u ∧ RV γ S w z u) ∧ (vl = none → l.map a.eval = none) := by
              intro l vl hl
              cases l with
              | none => simp [evO] at hl; subst hl; exact ⟨(fun z h => by cases h), fun _ => rfl⟩
              | some x =>
                simp only [evO, Option.map_eq_some_iff] at hl
                obtain ⟨y, hy, rfl⟩ := hl
                exact ⟨(fun z h => by cases h; exact ⟨_, rfl, ev_ok hT hy⟩), fun h => by cases h⟩
            obtain ⟨u, g1, g2⟩ := sliceV_ok hty (γ := γ) (S := S) (w := w) rfl h (ev_ok hT hx) (key hlo).1 (key hlo).2 (key hhi).1 (key hhi).2 (key hmx).1 (key hmx).2
            exact done u rfl (by simp [execOp, hop, g1]) g2
  case fieldAddr t x f =>
    cases hx : ev T x with
    | none => simp [hx] at h
    | some v =>
      simp only [hx, Option.bind_some, Option.map_eq_some_iff, Prod.mk.injEq] at h
      obtain ⟨r, h, rfl, rfl⟩ := h
      obtain ⟨u, g1, g2⟩ := fldA_ok rfl hty h (ev_ok hT hx)
      exact done u rfl (by simp [execOp, hop, g1]) g2
  case field t x f =>
    cases hx : ev T x with
    | none => simp [hx] at h
    | some v =>
      simp only [hx, Option.bind_some, Option.map_eq_some_iff, Prod.mk.injEq] at h
      obtain ⟨r, h, rfl, rfl⟩ := h
      obtain ⟨u, g1, g2⟩ := fldV_ok rfl hty h (ev_ok hT hx)
      exact done u rfl (by simp [execOp, hop, g1]) g2
  case indexAddr t x i =>
    cases hx : ev T x with
    | none => simp [hx] at h
    | some v =>
      cases hi : ev T i with
      | none => simp [hx, hi] at h
      | some vi =>
        cases hk : intOf vi with
        | none => simp [hx, hi, hk] at h
        | some k =>
          obtain ⟨kk, k⟩ := k
          simp only [hx, hi, hk, Option.bind_some, Option.map_eq_some_iff, Prod.mk.injEq] at h
          obtain ⟨r, h, rfl, rfl⟩ := h
          obtain ⟨u, g1, g2⟩ := idxA_ok hty (k := kk) rfl h (ev_ok hT hx)
          have e := intOf_ok hk (ev_ok hT hi)
          exact done u rfl (by simp [execOp, hop, e, g1]) g2
  case index t x i =>
    cases hx : ev T x with
    | none => simp [hx] at h
    | some v =>
      cases hi : ev T i with
      | none => simp [hx, hi] at h
      | some vi =>
        simp only [hx, hi, Option.bind_some, Option.map_eq_some_iff, Prod.mk.injEq] at h
        obtain ⟨r, h, rfl, rfl⟩ := h
        obtain ⟨u, g1, g2⟩ := indexV_ok hty h (ev_ok hT hx) (ev_ok hT hi)
        exact done u rfl (by simp [execOp, hop, g1]) g2
  case extract x k =>
    cases hx : ev T x with
    | none => simp [hx] at h
    | some v =>
      simp only [hx, Option.bind_some, Option.map_eq_some_iff, Prod.mk.injEq] at h
      obtain ⟨r, h, rfl, rfl⟩ := h
      obtain ⟨u, g1, g2⟩ := extractV_ok (P := P) h (ev_ok hT hx)
      exact done u rfl (by simp [execOp, hop, g1]) g2
  case call c => exact evCall_ok hty hcall hI hT hop h hat hK
end
end Go.Vm
