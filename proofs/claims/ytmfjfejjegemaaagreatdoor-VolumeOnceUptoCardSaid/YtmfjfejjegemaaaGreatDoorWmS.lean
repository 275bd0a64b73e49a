/-
  A part of the proof: an abstract run of the program, shown to be what the model does, and what it comes to.
-/
import Derived.Test.YtmfjfejjegemaaaGreatDoorWmR
set_option linter.unusedVariables false
set_option linter.unusedSimpArgs false
set_option linter.unnecessarySimpa false
set_option linter.defProp false
set_option linter.unusedSectionVars false
namespace Go.Wm
open Go
noncomputable section

def putsT : List Oper → List Rec → (Nat → Bool) → Nat → Tm → Tm
  | o :: os, r :: rs, p, s, T => putsT os rs p (s + 1) (if p s then T.put o.dst r.val else T)
  | _, _, _, _, T => T
def putsS : List Rec → (Nat → Bool) → Nat → St → St
  | r :: rs, p, s, S => putsS rs p (s + 1) (if p s then applyW S r.wr else S)
  | [], _, _, S => S

theorem putsT_congr {p q : Nat → Bool} {x : Nat} : ∀ (os : List Oper) (rs : List Rec) (s : Nat) (T T' : Tm), T.get x = T'.get x →
    (∀ (j : Nat) (o : Oper), os[j]? = some o → o.dst = some x → p (s + j) = q (s + j)) → (putsT os rs p s T).get x = (putsT os rs q s T').get x
  | [], _, _, _, _, h, _ => by simpa [putsT] using h
  | _ :: _, [], _, _, _, h, _ => by simpa [putsT] using h
  | o :: os, r :: rs, s, T, T', h, hp => by
    simp only [putsT]
    refine putsT_congr os rs (s + 1) _ _ ?_ (fun j o hj hd => by have := hp (j + 1) o (by simpa using hj) hd; rwa [show s + 1 + j = s + (j + 1) by omega])
    by_cases hd : o.dst = some x
    · have := hp 0 o rfl hd
      simp only [Nat.add_zero] at this
      rw [this]
      cases q s <;> simp [Tm.get_put, hd, h]
    · cases p s <;> cases q s <;> simp [Tm.get_put, hd, h]

theorem applyW_congr {x : Nat} : ∀ (W : List (Nat × AObj)) (S S' : St), S[x]? = S'[x]? → (applyW S W)[x]? = (applyW S' W)[x]?
  | [], _, _, h => h
  | p :: W, S, S', h => by
    show (applyW (S.set p.1 p.2) W)[x]? = (applyW (S'.set p.1 p.2) W)[x]?
    refine applyW_congr W _ _ ?_
    rw [List.getElem?_set, List.getElem?_set]
    by_cases hx : p.1 = x
    · have : x < S.length ↔ x < S'.length := by
        constructor <;> intro hlt
        · rcases Nat.lt_or_ge x S'.length with h' | h'
          · exact h'
          · rw [List.getElem?_eq_none h'] at h; simp at h; omega
        · rcases Nat.lt_or_ge x S.length with h' | h'
          · exact h'
          · rw [List.getElem?_eq_none h'] at h; have := h.symm; simp at this; omega
      subst hx
      by_cases h1 : p.1 < S.length
      · simp [h1, this.1 h1]
      · have h2 : ¬ p.1 < S'.length := fun h => h1 (this.2 h)
        simp [h1, h2]
    · simp [hx, h]

theorem putsS_congr {p q : Nat → Bool} {x : Nat} : ∀ (rs : List Rec) (s : Nat) (S S' : St), S[x]? = S'[x]? →
    (∀ (j : Nat) (r : Rec), rs[j]? = some r → x ∈ keysOf r.wr → p (s + j) = q (s + j)) → (putsS rs p s S)[x]? = (putsS rs q s S')[x]?
  | [], _, _, _, h, _ => by simpa [putsS] using h
  | r :: rs, s, S, S', h, hp => by
    simp only [putsS]
    refine putsS_congr rs (s + 1) _ _ ?_ (fun j r hj hd => by have := hp (j + 1) r (by simpa using hj) hd; rwa [show s + 1 + j = s + (j + 1) by omega])
    by_cases hd : x ∈ keysOf r.wr
    · have := hp 0 r rfl hd
      simp only [Nat.add_zero] at this
      rw [this]
      cases q s
      · simpa using h
      · simpa using applyW_congr r.wr S S' h
    · have hne : ∀ w ∈ r.wr, w.1 ≠ x := fun w hw e => hd (List.mem_map.2 ⟨w, hw, e⟩)
      cases p s <;> cases q s <;> simp [applyW_other hne, h]

theorem putsS_length (rs : List Rec) (p : Nat → Bool) : ∀ (s : Nat) (S : St), (putsS rs p s S).length = S.length := by
  induction rs with
  | nil => intro s S; rfl
  | cons r rs ih =>
    intro s S
    simp only [putsS]
    rw [ih]
    cases p s <;> simp [applyW_length]

theorem putsT_none (os : List Oper) : ∀ (rs : List Rec) (p : Nat → Bool) (s : Nat) (T : Tm), (∀ k, s ≤ k → p k = false) → putsT os rs p s T = T := by
  induction os with
  | nil => intro rs p s T _; cases rs <;> rfl
  | cons o os ih =>
    intro rs p s T h
    cases rs with
    | nil => rfl
    | cons r rs =>
      simp only [putsT, h s (Nat.le_refl _), Bool.false_eq_true, if_false]
      exact ih rs p (s + 1) T (fun k hk => h k (by omega))
theorem putsS_none (rs : List Rec) : ∀ (p : Nat → Bool) (s : Nat) (S : St), (∀ k, s ≤ k → p k = false) → putsS rs p s S = S := by
  induction rs with
  | nil => intro p s S _; rfl
  | cons r rs ih =>
    intro p s S h
    simp only [putsS, h s (Nat.le_refl _), Bool.false_eq_true, if_false]
    exact ih p (s + 1) S (fun k hk => h k (by omega))

/-- where an operation's new objects go -/
def atOf (E : Env) : List Oper → Nat → Nat → Nat
  | o :: os, at_, i + 1 => atOf E os (at_ + needsMax E o.op) i
  | _, at_, _ => at_

theorem evOpsD_spec (E : Env) (ops : Array Oper) : ∀ (os : List Oper) (s at_ : Nat) (T : Tm) (S : St) (T' : Tm) (S' : St) (rs : List Rec), evOpsD E ops os at_ T S = some (T', S', rs) →
    rs.length = os.length ∧ T' = putsT os rs (fun _ => true) s T ∧ S' = putsS rs (fun _ => true) s S ∧
    ∀ (i : Nat) (o : Oper), os[i]? = some o → ∃ r, rs[i]? = some r ∧ recOf E ops (atOf E os at_ i) (putsT os rs (fun k => decide (k < s + i)) s T) (putsS rs (fun k => decide (k < s + i)) s S) o = some r
  | [], s, at_, T, S, T', S', rs, h => by
    simp only [evOpsD, Option.some.injEq, Prod.mk.injEq] at h
    obtain ⟨rfl, rfl, rfl⟩ := h
    exact ⟨rfl, rfl, rfl, fun i o h => by simp at h⟩
  | o :: os, s, at_, T, S, T', S', rs, h => by
    simp only [evOpsD] at h
    cases hr : recOf E ops at_ T S o with
    | none => simp [hr] at h
    | some r =>
      simp only [hr, Option.bind_some, Option.map_eq_some_iff, Prod.mk.injEq] at h
      obtain ⟨⟨T1, S1, rs'⟩, h, rfl, rfl, rfl⟩ := h
      obtain ⟨h1, h2, h3, h4⟩ := evOpsD_spec E ops os (s + 1) _ _ _ T1 S1 rs' h
      refine ⟨by simp [h1], by simpa [putsT] using h2, by simpa [putsS] using h3, fun i o' hi => ?_⟩
      cases i with
      | zero =>
        simp at hi
        subst hi
        refine ⟨r, rfl, ?_⟩
        rw [putsT_none _ _ _ _ _ (fun k hk => by simp; omega), putsS_none _ _ _ _ (fun k hk => by simp; omega)]
        exact hr
      | succ i =>
        simp at hi
        obtain ⟨r', g1, g2⟩ := h4 i o' hi
        refine ⟨r', by simpa using g1, ?_⟩
        have e : (fun k => decide (k < s + (i + 1))) = (fun k => decide (k < s + 1 + i)) := by funext k; congr 1; simp; omega
        rw [e]
        simp only [putsT, putsS, atOf]
        have hs : decide (s < s + 1 + i) = true := by simp; omega
        simp only [hs, if_true]
        exact g2

theorem atOf_range (E : Env) : ∀ (os : List Oper) (at_ i : Nat) (o : Oper), os[i]? = some o → at_ ≤ atOf E os at_ i ∧ atOf E os at_ i + needsMax E o.op ≤ at_ + totalMax E os
  | [], at_, i, o, h => by simp at h
  | o :: os, at_, 0, o', h => by simp at h; subst h; simp only [atOf, totalMax]; omega
  | o :: os, at_, i + 1, o', h => by
    simp at h
    have := atOf_range E os (at_ + needsMax E o.op) i o' h
    simp only [atOf, totalMax]
    omega

theorem checkD_spec (ops : Array Oper) : ∀ (rs : List Rec) (j : Nat) (early : List (Nat × Rec)), checkD ops j early rs = true →
    (∀ p ∈ early, ∀ (k : Nat) (r : Rec), rs[k]? = some r → r.idle = false → apartRec ops p.1 (j + k) p.2 r = true) ∧
    (∀ (i k : Nat) (p r : Rec), i < k → rs[i]? = some p → rs[k]? = some r → p.idle = false → r.idle = false → apartRec ops (j + i) (j + k) p r = true)
  | [], _, _, _ => ⟨fun _ _ k r h => by simp at h, fun i k p r _ h => by simp at h⟩
  | q :: rs, j, early, h => by
    simp only [checkD] at h
    by_cases hq : q.idle = true
    · rw [if_pos hq] at h
      obtain ⟨h1, h2⟩ := checkD_spec ops rs (j + 1) early h
      refine ⟨fun p hp k r hk hr => ?_, fun i k p r hik hi hk hp hr => ?_⟩
      · cases k with
        | zero => simp at hk; subst hk; rw [hq] at hr; cases hr
        | succ k => simp at hk; have := h1 p hp k r hk hr; rwa [show j + 1 + k = j + (k + 1) by omega] at this
      · cases i with
        | zero => simp at hi; subst hi; rw [hq] at hp; cases hp
        | succ i =>
          cases k with
          | zero => omega
          | succ k =>
            simp at hi hk
            have := h2 i k p r (by omega) hi hk hp hr
            rwa [show j + 1 + i = j + (i + 1) by omega, show j + 1 + k = j + (k + 1) by omega] at this
    · rw [if_neg hq] at h
      simp only [Bool.and_eq_true] at h
      obtain ⟨h0, h⟩ := h
      obtain ⟨h1, h2⟩ := checkD_spec ops rs (j + 1) (early ++ [(j, q)]) h
      refine ⟨fun p hp k r hk hr => ?_, fun i k p r hik hi hk hp hr => ?_⟩
      · cases k with
        | zero => simp at hk; subst hk; exact List.all_eq_true.1 h0 p hp
        | succ k => simp at hk; have := h1 p (List.mem_append_left _ hp) k r hk hr; rwa [show j + 1 + k = j + (k + 1) by omega] at this
      · cases k with
        | zero => omega
        | succ k =>
          simp at hk
          cases i with
          | zero => simp at hi; subst hi; have := h1 (j, q) (by simp) k r hk hr; rwa [show j + 1 + k = j + (k + 1) by omega] at this
          | succ i =>
            simp at hi
            have := h2 i k p r (by omega) hi hk hp hr
            rwa [show j + 1 + i = j + (i + 1) by omega, show j + 1 + k = j + (k + 1) by omega] at this

theorem countP_flip {p q : Nat → Bool} {i : Nat} (hp : p i = true) (hq : q i = false) (h : ∀ k, k ≠ i → q k = p k) : ∀ (l : List Nat), l.Nodup → i ∈ l → l.countP q + 1 = l.countP p
  | [], _, hi => by cases hi
  | x :: l, hn, hi => by
    have hn' := List.nodup_cons.1 hn
    by_cases hx : x = i
    · subst hx
      have : l.countP q = l.countP p := by
        apply List.countP_congr
        intro k hk
        rw [h k (fun e => hn'.1 (e ▸ hk))]
      simp [hp, hq, this]
    · have hil : i ∈ l := by
        rcases List.mem_cons.1 hi with e | e
        · exact absurd e.symm hx
        · exact e
      have := countP_flip hp hq h l hn'.2 hil
      simp only [List.countP_cons, h x hx]
      omega

theorem disjB_spec {l m : List Nat} (h : disjB l m = true) : ∀ x, x ∈ l → x ∈ m → False := fun x h1 h2 => by
  have := List.all_eq_true.1 h x h1
  simp [h2] at this

end
end Go.Wm
