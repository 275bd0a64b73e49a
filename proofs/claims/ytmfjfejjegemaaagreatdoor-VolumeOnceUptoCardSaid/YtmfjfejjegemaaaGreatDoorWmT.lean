/-
  A part of the proof: an abstract run of the program, shown to be what the model does, and what it comes to.
-/
import Derived.Test.YtmfjfejjegemaaaGreatDoorWmS
set_option linter.unusedVariables false
set_option linter.unusedSimpArgs false
set_option linter.unnecessarySimpa false
set_option linter.defProp false
set_option linter.unusedSectionVars false
namespace Go.Wm
open Go
noncomputable section

theorem set_comm' {S : St} {i j : Nat} {x y : AObj} (h : i ≠ j) : (S.set i x).set j y = (S.set j y).set i x := by
  apply List.ext_getElem?
  intro k
  simp only [List.getElem?_set, List.length_set]
  by_cases h1 : j = k <;> by_cases h2 : i = k <;> simp [h1, h2]
  omega

theorem applyW_set (W : List (Nat × AObj)) : ∀ (S : St) (i : Nat) (x : AObj), i ∉ keysOf W → applyW (S.set i x) W = (applyW S W).set i x := by
  induction W with
  | nil => intro S i x _; rfl
  | cons p W ih =>
    intro S i x h
    have h1 : i ≠ p.1 := fun e => h (by simp [keysOf, e])
    have h2 : i ∉ keysOf W := fun e => h (by simp only [keysOf, List.map_cons, List.mem_cons]; exact .inr e)
    show applyW ((S.set i x).set p.1 p.2) W = (applyW (S.set p.1 p.2) W).set i x
    rw [set_comm' h1, ih _ _ _ h2]

theorem applyW_comm (W W' : List (Nat × AObj)) : ∀ (S : St), (∀ x, x ∈ keysOf W → x ∈ keysOf W' → False) → applyW (applyW S W) W' = applyW (applyW S W') W := by
  induction W with
  | nil => intro S _; rfl
  | cons p W ih =>
    intro S h
    show applyW (applyW (S.set p.1 p.2) W) W' = applyW ((applyW S W').set p.1 p.2) W
    rw [ih _ (fun x h1 h2 => h x (by simp only [keysOf, List.map_cons, List.mem_cons]; exact .inr h1) h2), applyW_set W' S p.1 p.2 (fun h2 => h p.1 (by simp [keysOf]) h2)]

theorem putsS_comm (rs : List Rec) (W : List (Nat × AObj)) (p : Nat → Bool) : ∀ (s : Nat) (S : St), (∀ (k : Nat) (r : Rec), rs[k]? = some r → p (s + k) = true → ∀ x, x ∈ keysOf W → x ∈ keysOf r.wr → False) →
    putsS rs p s (applyW S W) = applyW (putsS rs p s S) W := by
  induction rs with
  | nil => intro s S _; rfl
  | cons r rs ih =>
    intro s S h
    simp only [putsS]
    have h' : ∀ (k : Nat) (r : Rec), rs[k]? = some r → p (s + 1 + k) = true → ∀ x, x ∈ keysOf W → x ∈ keysOf r.wr → False := fun k r hk hp => h (k + 1) r (by simpa using hk) (by rwa [show s + (k + 1) = s + 1 + k by omega])
    cases hs : p s with
    | false => simp only [Bool.false_eq_true, if_false]; exact ih (s + 1) S h'
    | true =>
      simp only [if_true]
      rw [applyW_comm W r.wr S (h 0 r rfl (by simpa using hs)), ih (s + 1) _ h']

theorem putsS_add (rs : List Rec) (p q : Nat → Bool) (i : Nat) (r : Rec) (hpi : p i = false) (hqi : q i = true) (hpq : ∀ k, k ≠ i → q k = p k) : ∀ (s j : Nat) (S : St), s + j = i → rs[j]? = some r →
    (∀ (k : Nat) (r' : Rec), rs[k]? = some r' → i < s + k → p (s + k) = true → ∀ x, x ∈ keysOf r.wr → x ∈ keysOf r'.wr → False) → putsS rs q s S = applyW (putsS rs p s S) r.wr := by
  induction rs with
  | nil => intro s j S _ h; simp at h
  | cons r0 rs ih =>
    intro s j S hs hr hd
    simp only [putsS]
    cases j with
    | zero =>
      simp at hs hr
      subst hs hr
      simp only [hpi, hqi, if_true, Bool.false_eq_true, if_false]
      rw [← putsS_comm rs r0.wr p (s + 1) S (fun k r' hk hp => hd (k + 1) r' (by simpa using hk) (by omega) (by rwa [show s + (k + 1) = s + 1 + k by omega]))]
      apply List.ext_getElem?
      intro x
      exact putsS_congr rs (s + 1) _ _ rfl fun k _ _ _ => hpq _ (by omega)
    | succ j =>
      simp at hr
      rw [hpq s (by omega)]
      exact ih (s + 1) j _ (by omega) hr (fun k r' hk hlt hp => hd (k + 1) r' (by simpa using hk) (by omega) (by rwa [show s + (k + 1) = s + 1 + k by omega]))

theorem putsT_add (x : Nat) (q p : Nat → Bool) (i : Nat) (r : Rec) (o : Oper) (hpi : p i = false) (hqi : q i = true) (hpq : ∀ k, k ≠ i → q k = p k) : ∀ (os : List Oper) (rs : List Rec) (s j : Nat) (T : Tm), s + j = i → os[j]? = some o → rs[j]? = some r →
    (∀ (k : Nat) (o' : Oper), os[k]? = some o' → i < s + k → p (s + k) = true → ∀ d, o.dst = some d → o'.dst ≠ some d) → (putsT os rs q s T).get x = ((putsT os rs p s T).put o.dst r.val).get x
  | [], _, s, j, T, _, h, _, _ => by simp at h
  | _ :: _, [], s, j, T, _, _, h, _ => by simp at h
  | o0 :: os, r0 :: rs, s, j, T, hs, ho, hr, hd => by
    simp only [putsT]
    cases j with
    | zero =>
      simp at hs ho hr
      subst hs ho hr
      simp only [hpi, hqi, if_true, Bool.false_eq_true, if_false]
      have e : (putsT os rs q (s + 1) (T.put o0.dst r0.val)).get x = (putsT os rs p (s + 1) (T.put o0.dst r0.val)).get x := putsT_congr os rs (s + 1) _ _ rfl fun k _ _ _ => hpq _ (by omega)
      rw [e, Tm.get_put]
      by_cases hx : o0.dst = some x
      · rw [if_pos hx]
        have hno : ∀ (k : Nat) (o' : Oper), os[k]? = some o' → o'.dst = some x → p (s + 1 + k) = false := fun k o' hk hx' => by
          cases hp : p (s + 1 + k) with
          | false => rfl
          | true => exact absurd hx' (hd (k + 1) o' (by simpa using hk) (by omega) (by rwa [show s + (k + 1) = s + 1 + k by omega]) x hx)
        have : (putsT os rs p (s + 1) (T.put o0.dst r0.val)).get x = (putsT os rs (fun _ => false) (s + 1) (T.put o0.dst r0.val)).get x := putsT_congr os rs (s + 1) _ _ rfl hno
        rw [this, putsT_none _ _ _ _ _ (fun _ _ => rfl), Tm.get_put, if_pos hx]
      · rw [if_neg hx]
        exact putsT_congr os rs (s + 1) _ _ (by rw [Tm.get_put, if_neg hx]) fun _ _ _ _ => rfl
    | succ j =>
      simp at ho hr
      rw [hpq s (by omega)]
      exact putsT_add x q p i r o hpi hqi hpq os rs (s + 1) j _ (by omega) ho hr (fun k o' hk hlt hp => hd (k + 1) o' (by simpa using hk) (by omega) (by rwa [show s + (k + 1) = s + 1 + k by omega]))

theorem RT.congr {n : Nat} {γ : Gh} {S : St} {w : World} {T T' : Tm} {a : Act} (h : RT n γ S w T a) (he : ∀ i, T'.get i = T.get i) : RT n γ S w T' a :=
  ⟨h.size, h.defers, fun i => by rw [he]; exact h.get i⟩

theorem pairB_spec {ops : Array Oper} (h : pairB ops = true) : (∀ (j : Nat) (o : Oper), ops[j]? = some o → ∀ e ∈ o.after, Region.binds .any e = true → e.on < j) ∧
    (∀ (i j : Nat) (oi oj : Oper), i < j → ops[i]? = some oi → ops[j]? = some oj → direct ops i j = true ∨ oi.apart ops oj = true) := by
  unfold pairB at h
  rw [List.all_eq_true] at h
  refine ⟨fun j o ho e he hb => ?_, fun i j oi oj hij hi hj => ?_⟩
  · have hlt : j < ops.size := (Array.getElem?_eq_some_iff.1 ho).1
    have := h j (List.mem_range.2 hlt)
    simp only [ho, Bool.and_eq_true, Array.all_eq_true_iff_forall_mem] at this
    have := this.1 e he
    simpa [hb] using this
  · have hlt : j < ops.size := (Array.getElem?_eq_some_iff.1 hj).1
    have := h j (List.mem_range.2 hlt)
    simp only [hj, Bool.and_eq_true, List.all_eq_true] at this
    have := this.2 i (List.mem_range.2 hij)
    simpa [hi] using this

theorem direct_spec {ops : Array Oper} {i j : Nat} {o : Oper} (ho : ops[j]? = some o) (h : direct ops i j = true) : ∃ e ∈ o.after, Region.binds .any e = true ∧ e.on = i := by
  unfold direct at h
  simp only [ho, Array.any_eq_true] at h
  obtain ⟨k, hk, h⟩ := h
  simp at h
  exact ⟨o.after[k], Array.getElem_mem hk, h.1, h.2⟩
theorem needs_congr {E : Env} {T T' : Tm} {op : Op} (h1 : ∀ t, Operand.tmp t ∈ op.operands.toList → T.get t = T'.get t) : needs E T op = needs E T' op := by
  cases op <;> simp only [needs]
  rename_i c
  cases hc : c.callee with
  | invoke r m => rfl
  | value f =>
    have : ev T f = ev T' f := ev_congr fun t ht => h1 t (by simp [Op.operands, Call.operands, hc, ht])
    simp only [this]
  | builtin b =>
    cases b <;> simp only
    cases hl : c.args.toList with
    | nil => rfl
    | cons x r =>
      have : ev T x = ev T' x := ev_congr fun t ht => h1 t (by
        simp only [Op.operands, Call.operands, hc, Array.toList_append, List.mem_append, hl, ht]
        exact .inr (by simp))
      simp only [List.head?_cons, Option.bind_some, this]
end
end Go.Wm
