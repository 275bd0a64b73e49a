/-
  A part of the proof: an abstract run of the program, shown to be what the model does, and what it comes to.
-/
import Derived.Test.YtfopbbeieegfcaaVmN
set_option linter.unusedVariables false
set_option linter.unusedSimpArgs false
set_option linter.unusedSectionVars false
set_option linter.unnecessarySimpa false
namespace Go.Vm
open Go

section
variable {P : Program} {E : Env} (hty : TyOk P E.ty) (hcall : CallOk P E) {γ : Gh} {S : St} {w : World} {T : Tm} {a : Act} {n : Nat}

theorem boolOf_ok {x : V} {b : Bool} {v : Value} (h : boolOf x = some b) (hx : RV γ S w x v) : v = .bool b := by
  unfold boolOf at h
  split at h <;> cases h
  cases hx with
  | d _ _ hx => cases hx; rfl
theorem intOf_ok {x : V} {k : IntKind} {i : Int} {v : Value} (h : intOf x = some (k, i)) (hx : RV γ S w x v) : v = .int k i := by
  unfold intOf at h
  split at h <;> cases h
  cases hx with
  | d _ _ hx => cases hx; rfl

theorem underlying_of {t : Nat} {i : TI} (hty : TyOk P E.ty) (ht : E.ty t = some i) : ∃ d, P.underlying t = some d := by
  have h1 := hty.desc ht
  cases hd : i.desc <;> rw [hd] at h1 <;> simp only [descOk, Bool.and_eq_true] at h1 <;> (try obtain ⟨h1, _⟩ := h1) <;> (split at h1 <;> first | (cases h1; done) | skip) <;> rename_i hu <;> exact ⟨_, hu⟩

theorem RArgs.one {x : V} {vs : Array Value} (h : RArgs γ S w [x] vs) : ∃ u, vs = #[u] ∧ RV γ S w x u := by
  obtain ⟨l⟩ := vs
  obtain ⟨h1, h2⟩ := h
  match l, h1 with
  | [u], _ => exact ⟨u, rfl, h2 0 x u rfl rfl⟩
theorem RArgs.two {x y : V} {vs : Array Value} (h : RArgs γ S w [x, y] vs) : ∃ u v, vs = #[u, v] ∧ RV γ S w x u ∧ RV γ S w y v := by
  obtain ⟨l⟩ := vs
  obtain ⟨h1, h2⟩ := h
  match l, h1 with
  | [u, v], _ => exact ⟨u, v, rfl, h2 0 x u rfl rfl, h2 1 y v rfl rfl⟩

theorem lenOf_ok (hty : TyOk P E.ty) {t : Nat} {i : TI} (ht : E.ty t = some i) {x : V} {k : Nat} {u : Value} (h : lenOf i.desc x = some k) (hx : RV γ S w x u) (tr : TypeId) :
    (Builtin.len_ #[t] tr #[u]).run P w = .ok (.int .i64 k) w := by
  unfold lenOf at h
  split at h
  · rename_i hd
    have hP := hty.desc ht
    rw [hd] at hP
    simp only [descOk] at hP
    split at hP <;> first | (cases hP; done) | skip
    rename_i hP'
    split at h <;> cases h
    cases hx with
    | d _ _ hx =>
      cases hx
      simp [Builtin.len_, run_underlying hP', goInt]
  · rename_i e es eb hd
    have hP := (hty.slice ht hd).1
    cases hr : sliceOf x with
    | none => simp [hr] at h
    | some r =>
      obtain ⟨nn, sz, xs⟩ := r
      simp only [hr, Option.map_some, Option.some.injEq] at h
      subst h
      rcases (sliceOf_ok hr hx).sl_inv with ⟨_, rfl, rfl⟩ | ⟨_, a, cap, vs, rfl, _⟩ <;> simp [Builtin.len_, run_underlying hP, goInt]
  · cases h

theorem maxV_ok {up : Bool} {l : List V} {y : V} {vs : Array Value} (h : maxV up l = some y) (hA : RArgs γ S w l vs) (at_ : Array TypeId) (t : TypeId) :
    ∃ u, (if up then Builtin.max_ at_ t vs else Builtin.min_ at_ t vs).run P w = .ok u w ∧ RV γ S w y u := by
  match l, h with
  | [x], h =>
    obtain ⟨u, rfl, hx⟩ := hA.one
    simp only [maxV, Option.map_eq_some_iff] at h
    obtain ⟨_, _, rfl⟩ := h
    exact ⟨u, by cases up <;> simp [Builtin.max_, Builtin.min_], hx⟩
  | x :: y' :: r, h =>
    cases r with
    | cons z r => simp [maxV] at h
    | nil =>
      obtain ⟨u, v, rfl, hx, hy⟩ := hA.two
      simp only [maxV, List.isEmpty_nil, if_true] at h
      cases ha : intOf x with
      | none => simp [ha] at h
      | some p =>
        cases hb : intOf y' with
        | none => simp [ha, hb] at h
        | some q =>
          obtain ⟨k, i⟩ := p
          obtain ⟨k', j⟩ := q
          simp only [ha, hb, Option.bind_some, Option.some.injEq] at h
          subst h
          rw [intOf_ok ha hx, intOf_ok hb hy]
          refine ⟨_, ?_, .d _ _ (.int k _)⟩
          cases up <;> simp [Builtin.max_, Builtin.min_, Builtin.max2, Builtin.min2]

include hty hcall
theorem evCall_ok (hI : Inv γ S w) (hT : RT n γ S w T a) {at_ : Nat} {c : Call} {o : Oper} (ho : o.op = .call c) {y : V} {W : List (Nat × AObj)} (h : evCall E at_ T S c = some (y, W))
    (hat : ∀ j, j < needs E T (.call c) → S[at_ + j]? = some .dead ∧ γ.mu (at_ + j) = none) {K : Act → World → Prop} {Q : Exit → Act → World → Prop}
    (hK : ∀ u γ' w', Inv γ' (applyW S W) w' → Ext S.length γ S w γ' (applyW S W) w' → RV γ' (applyW S W) w' y u → K (a.put o.dst u) w') : o.wp P a w K Q := by
  unfold evCall at h
  cases hargs : evs T c.args.toList with
  | none => simp [hargs] at h
  | some args =>
    simp only [hargs, Option.bind_some] at h
    have hA := RArgs.of_evs hT hargs
    have enter : ∀ (g : Nat) (vs : Array Value), (execOp a.eval o).run P w = (callFunc g vs).run P w →
        (Enters P g ∧ Calls P g vs w fun e w' => ∃ u γ', e = .returned u ∧ Inv γ' (applyW S W) w' ∧ Ext S.length γ S w γ' (applyW S W) w' ∧ RV γ' (applyW S W) w' y u) → o.wp P a w K Q := fun g vs h1 ⟨h2, h3⟩ => by
      unfold Oper.wp
      rw [h1, h2 vs w, Oper.upon_enter]
      refine h3.mono ?_
      rintro e w' ⟨u, γ', rfl, g1, g2, g3⟩
      exact hK u γ' w' g1 g2 g3
    cases hc : c.callee with
    | invoke r m => simp [hc] at h
    | value f =>
      simp only [hc] at h
      cases hf : ev T f with
      | none => simp [hf] at h
      | some fv =>
        simp only [hf, Option.bind_some] at h
        have hfr := ev_ok hT hf
        split at h
        · rename_i g
          have hat' : ∀ j, j < E.news g → S[at_ + j]? = some .dead ∧ γ.mu (at_ + j) = none := fun j hj => hat j (by simp [needs, hc, hf]; exact hj)
          refine enter g (c.args.map a.eval) ?_ (callFn_ok hcall hI h hat' hA)
          cases hfv : a.eval f with
          | func fn first cap =>
            rw [hfv] at hfr
            cases hfr with
            | d _ _ hfr =>
              cases hfr
              simp [execOp, ho, resolve, hc, hfv, Deferred.ofValue, invoke]
          | _ => rw [hfv] at hfr; cases hfr with | d _ _ hfr => cases hfr
        · rename_i g first cap
          have hat' : ∀ j, j < E.news g → S[at_ + j]? = some .dead ∧ γ.mu (at_ + j) = none := fun j hj => hat j (by simp [needs, hc, hf]; exact hj)
          cases hfv : a.eval f with
          | func fn vf vc =>
            rw [hfv] at hfr
            cases hfr with
            | fn _ _ _ _ _ h1 h2 hff hcc =>
              have hA' : RArgs γ S w (first ++ args ++ cap) (vf ++ c.args.map a.eval ++ vc) := (RArgs.append (RArgs.append ⟨h1, hff⟩ hA) ⟨h2, hcc⟩)
              refine enter g (vf ++ c.args.map a.eval ++ vc) ?_ (callFn_ok hcall hI h hat' hA')
              simp [execOp, ho, resolve, hc, hfv, Deferred.ofValue, invoke]
          | _ => rw [hfv] at hfr; cases hfr
        · cases h
    | builtin b =>
      simp only [hc] at h
      have hrun : (execOp a.eval o).run P w = (builtin b c.argTypes o.type (c.args.map fun | .const _ => true | _ => false) (c.args.map a.eval)).run P w := by
        simp only [execOp, ho, resolve, hc]
        rfl
      have done : ∀ (v : V) (u : Value), (y, W) = (v, []) → (builtin b c.argTypes o.type (c.args.map fun | .const _ => true | _ => false) (c.args.map a.eval)).run P w = .ok (.value u) w → RV γ S w v u → o.wp P a w K Q := fun v u e h1 h2 => by
        cases e
        exact wp_value (hrun.trans h1) (hK u γ w hI (Ext.refl (Nat.le_refl _)) h2)
      split at h
      · -- len
        rename_i x
        split at h <;> first | (cases h; done) | skip
        rename_i t htt
        cases ht : E.ty t with
        | none => simp [ht] at h
        | some i =>
          simp only [ht, Option.bind_some, Option.map_eq_some_iff] at h
          obtain ⟨k, hl, hr⟩ := h
          cases hr
          obtain ⟨u, hu, hx⟩ := hA.one
          have hat1 : c.argTypes = #[t] := by apply Array.ext'; simpa using htt
          refine done _ (.int .i64 k) rfl ?_ (.d _ _ (.int _ _))
          simp [builtin, hu, hat1, lenOf_ok hty ht hl hx]
      · -- append
        rename_i x y'
        split at h <;> first | (cases h; done) | skip
        rename_i t t' htt
        split at h <;> first | (cases h; done) | skip
        rename_i htt'
        subst htt'
        simp only [Option.map_eq_some_iff] at h
        obtain ⟨r, h, hr⟩ := h
        cases hr
        obtain ⟨u, v, hu, hx, hy⟩ := hA.two
        have hat2 : c.argTypes = #[t', t'] := by apply Array.ext'; simpa using htt
        obtain ⟨z, γ', w', h1, h2, h3, h4⟩ : ∃ z γ' w', (Builtin.append_ #[t', t'] o.type #[u, v]).run P w = .ok z w' ∧ Inv γ' (S.set r.2.1 r.2.2) w' ∧ Ext S.length γ S w γ' (S.set r.2.1 r.2.2) w' ∧ RV γ' (S.set r.2.1 r.2.2) w' r.1 z := by
          by_cases hown : ∃ p q s' z', x = .own p q s' z'
          · obtain ⟨p, q, s', z', rfl⟩ := hown
            exact appendV_own_ok hty hI rfl h hx hy
          · have h0 : needs E T (.call c) = 1 := by
              have he : (c.args.toList.head?).bind (ev T) = some x := by
                cases hl : c.args.toList with
                | nil => rw [hl] at hargs; simp [evs] at hargs
                | cons x0 r0 =>
                  rw [hl] at hargs
                  simp only [evs] at hargs
                  cases hx0 : ev T x0 with
                  | none => simp [hx0] at hargs
                  | some v0 =>
                    simp only [hx0, Option.bind_some, Option.map_eq_some_iff] at hargs
                    obtain ⟨_, _, hh⟩ := hargs
                    simp only [List.cons.injEq] at hh
                    simp [hx0, hh.1]
              simp only [needs, hc, he]
              split
              · rename_i p q s' z' hh
                exact absurd ⟨p, q, s', z', Option.some.inj hh⟩ hown
              · rfl
            obtain ⟨g1, g2⟩ := hat 0 (by omega)
            exact appendV_ok hty hI g1 g2 rfl h hx hy
        refine wp_value (u := z) (w' := w') (hrun.trans ?_) (hK z γ' w' h2 h3 h4)
        simp [builtin, hu, hat2, h1]
      · rename_i l
        simp only [Option.map_eq_some_iff] at h
        obtain ⟨v, h, hr⟩ := h
        cases hr
        obtain ⟨u, h1, h2⟩ := maxV_ok (P := P) h hA c.argTypes o.type
        exact done _ u rfl (by simp only [if_true] at h1; simp [builtin, h1]) h2
      · rename_i l
        simp only [Option.map_eq_some_iff] at h
        obtain ⟨v, h, hr⟩ := h
        cases hr
        obtain ⟨u, h1, h2⟩ := maxV_ok (P := P) h hA c.argTypes o.type
        exact done _ u rfl (by simp only [Bool.false_eq_true, if_false] at h1; simp [builtin, h1]) h2
      · cases h
end
end Go.Vm
