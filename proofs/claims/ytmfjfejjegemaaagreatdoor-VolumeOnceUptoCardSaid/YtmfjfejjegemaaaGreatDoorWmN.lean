/-
  A part of the proof: an abstract run of the program, shown to be what the model does, and what it comes to.
-/
import Derived.Test.YtmfjfejjegemaaaGreatDoorWmM
set_option linter.unusedVariables false
set_option linter.unusedSimpArgs false
set_option linter.unnecessarySimpa false
set_option linter.defProp false
set_option linter.unusedSectionVars false
namespace Go.Wm
open Go
variable [GlobReq]

/-- where an object of the callee's state lies in the caller's -/
def back (ids : List Nat) (at_ : Nat) (k : Nat) : Nat := (ids[k]?).getD (at_ + (k - ids.length))
def callW (σ : Nat → Nat) : List AObj → Nat → List (Nat × AObj)
  | [], _ => []
  | ob :: r, k => (σ k, ob.ren σ) :: callW σ r (k + 1)
theorem callW_get (σ : Nat → Nat) : ∀ (l : List AObj) (s j : Nat), (callW σ l s)[j]? = (l[j]?).map fun ob => (σ (s + j), ob.ren σ)
  | [], s, j => by simp [callW]
  | ob :: r, s, 0 => by simp [callW]
  | ob :: r, s, j + 1 => by
    simp only [callW, List.getElem?_cons_succ]
    rw [callW_get σ r (s + 1) j, show s + 1 + j = s + (j + 1) by omega]
theorem callW_keys (σ : Nat → Nat) : ∀ (l : List AObj) (s : Nat), (callW σ l s).map (·.1) = (List.range' s l.length).map σ
  | [], s => rfl
  | ob :: r, s => by simp [callW, callW_keys σ r (s + 1), List.range'_succ]

def forth (ids : List Nat) (at_ n : Nat) (o : Nat) : Option Nat :=
  match posOf ids o with
  | some k => some k
  | none => if at_ ≤ o ∧ o < at_ + (n - ids.length) then some (ids.length + (o - at_)) else none

section
variable {γ γ1 : Gh} {S T T1 : St} {w w1 : World} {ids : List Nat} {at_ : Nat}

theorem forth_back (hn : ids.Nodup) (hlt : ∀ i ∈ ids, i < at_) {k n : Nat} (hk : k < n) : forth ids at_ n (back ids at_ k) = some k := by
  unfold forth back
  by_cases h : k < ids.length
  · have e : ids[k]? = some ids[k] := by simp [h]
    rw [e, Option.getD_some, posOf_nodup hn e]
  · have e : ids[k]? = none := by simp; omega
    rw [e, Option.getD_none]
    have hp : posOf ids (at_ + (k - ids.length)) = none := by
      cases hp : posOf ids (at_ + (k - ids.length)) with
      | none => rfl
      | some j =>
        have := hlt _ (List.mem_of_getElem? (posOf_some hp))
        omega
    rw [hp]
    simp only
    rw [if_pos (by omega)]
    congr 1; omega

theorem back_forth {n o k : Nat} (h : forth ids at_ n o = some k) : back ids at_ k = o ∧ (k < ids.length ∨ k < n) := by
  unfold forth at h
  cases hp : posOf ids o with
  | some j =>
    rw [hp] at h
    cases h
    have := posOf_some hp
    exact ⟨by simp [back, this], .inl (List.getElem?_eq_some_iff.1 this).1⟩
  | none =>
    rw [hp] at h
    simp only at h
    split at h <;> cases h
    rename_i h
    refine ⟨?_, .inr (by omega)⟩
    unfold back
    have e : ids[ids.length + (o - at_)]? = none := by simp
    rw [e, Option.getD_none]
    omega

theorem AObj.ren_dead {σ : Nat → Nat} {ob : AObj} (h : ob.ren σ = .dead) : ob = .dead := by cases ob <;> first | rfl | (cases h)
theorem Keep.carry {f : Nat → Option Nat} {σ : Nat → Nat} {γp γ1 γ γ' : Gh} {w w1 : World} {k o : Nat} {ob ob2 : AObj} {r : Option AObj} (h : Keep γp w γ1 w1 k ob2 r) (hu : ob.unren f = some ob2)
    (h1 : γ'.mu o = γ1.mu k) (h2 : γp.mu k = γ.mu o) : Keep γ w γ' w1 o ob (r.map (AObj.ren σ)) := by
  cases ob with
  | box cs =>
    simp only [AObj.unren, Option.map_eq_some_iff] at hu
    obtain ⟨ds, _, rfl⟩ := hu
    obtain ⟨g1, cs', rfl⟩ := h
    exact ⟨h1.trans (g1.trans h2), V.renL σ cs', rfl⟩
  | tok e f sz =>
    simp only [AObj.unren, Option.some.injEq] at hu
    subst hu
    obtain ⟨f', rfl, g2, g3⟩ := h
    refine ⟨f', rfl, g2, fun hff => ?_⟩
    obtain ⟨g4, g5⟩ := g3 hff
    rw [h2] at g4 g5
    exact ⟨h1.trans g4, g5⟩
  | row e sz xs =>
    simp only [AObj.unren, Option.some.injEq] at hu
    subst hu
    rcases h with rfl | ⟨g1, g2, xs', g3, rfl | rfl⟩
    · exact .inl rfl
    · exact .inr ⟨h1.trans (g1.trans h2), fun b hb => g2 b (h2.trans hb), xs', g3, .inl rfl⟩
    · exact .inr ⟨h1.trans (g1.trans h2), fun b hb => g2 b (h2.trans hb), xs', g3, .inr rfl⟩
  | fro e sz xs =>
    simp only [AObj.unren, Option.some.injEq] at hu
    subst hu
    rcases h with rfl | ⟨g1, g2, rfl⟩
    · exact .inl rfl
    · exact .inr ⟨h1.trans (g1.trans h2), fun b hb => g2 b (h2.trans hb), rfl⟩
  | map kvs =>
    simp only [AObj.unren, Option.some.injEq] at hu
    subst hu
    obtain ⟨g1, cs', rfl⟩ := h
    exact ⟨h1.trans (g1.trans h2), cs', rfl⟩
  | dead =>
    simp only [AObj.unren, Option.some.injEq] at hu
    subst hu
    intro hd
    cases r with
    | none => simp at hd
    | some ob' =>
      simp only [Option.map_some, Option.some.injEq] at hd
      have := AObj.ren_dead hd
      subst this
      exact h1.trans ((h rfl).trans h2)
  | gone =>
    simp only [AObj.unren, Option.some.injEq] at hu
    subst hu
    have : r = some .gone := h
    subst this
    rfl

theorem merge (hI : Inv γ S w) (hn : ids.Nodup) (hlt : ∀ i ∈ ids, i < at_) (hf : focus (posOf ids) S ids = some T) (hI1 : Inv γ1 T1 w1) (he : Ext T.length (γ.part ids) T w γ1 T1 w1)
    (hat : ∀ k, ids.length ≤ k → k < T1.length → S[at_ + (k - ids.length)]? = some .dead ∧ γ.mu (at_ + (k - ids.length)) = none) (hlive : ∀ k, ids.length ≤ k → k < T1.length → T1[k]? ≠ some .dead) :
    ∃ γ', Inv γ' (applyW S (callW (back ids at_) T1 0)) w1 ∧ Ext S.length γ S w γ' (applyW S (callW (back ids at_) T1 0)) w1 ∧
      Mor (back ids at_) γ1 T1 γ' (applyW S (callW (back ids at_) T1 0)) := by
  obtain ⟨hTl, hTg⟩ := focus_get hf
  have hle : ids.length ≤ T1.length := by have := he.len'; omega
  have hinj : ∀ k k', k < T1.length → k' < T1.length → back ids at_ k = back ids at_ k' → k = k' := fun k k' h1 h2 h => by
    have e1 := forth_back (at_ := at_) hn hlt h1
    have e2 := forth_back (at_ := at_) hn hlt h2
    rw [h, e2] at e1
    exact (Option.some.inj e1).symm
  have hnodup : ((callW (back ids at_) T1 0).map (·.1)).Nodup := by
    rw [callW_keys]
    unfold List.Nodup
    rw [List.pairwise_map, List.pairwise_iff_getElem]
    intro i j hi hj hij h
    simp only [List.length_range'] at hi hj
    simp only [List.getElem_range', Nat.zero_add, Nat.one_mul] at h
    have := hinj i j (by omega) hj h
    omega
  have hbackS : ∀ k, k < T1.length → back ids at_ k < S.length := fun k hk => by
    by_cases h : k < ids.length
    · have e : ids[k]? = some ids[k] := by simp [h]
      obtain ⟨ob, _, h1, _⟩ := hTg k _ e
      simp only [back, e, Option.getD_some]
      exact (List.getElem?_eq_some_iff.1 h1).1
    · have e : ids[k]? = none := by simp; omega
      simp only [back, e, Option.getD_none]
      exact (List.getElem?_eq_some_iff.1 (hat k (by omega) hk).1).1
  have hhit : ∀ k ob, T1[k]? = some ob → (applyW S (callW (back ids at_) T1 0))[back ids at_ k]? = some (ob.ren (back ids at_)) := fun k ob hk => by
    have hkl := (List.getElem?_eq_some_iff.1 hk).1
    have hm : (back ids at_ k, ob.ren (back ids at_)) ∈ callW (back ids at_) T1 0 := List.mem_of_getElem? (i := k) (by rw [callW_get, hk]; simp)
    exact applyW_hit hnodup hm (hbackS k hkl)
  have hother : ∀ o, forth ids at_ T1.length o = none → (applyW S (callW (back ids at_) T1 0))[o]? = S[o]? := fun o ho => applyW_other fun p hp e => by
    obtain ⟨k, hk⟩ := List.getElem?_of_mem hp
    rw [callW_get, Option.map_eq_some_iff] at hk
    obtain ⟨ob, hob, rfl⟩ := hk
    simp only [Nat.zero_add] at e
    have := forth_back (at_ := at_) hn hlt (List.getElem?_eq_some_iff.1 hob).1
    rw [e, ho] at this
    cases this
  let γ' : Gh := { mu := fun o => match forth ids at_ T1.length o with | some k => γ1.mu k | none => γ.mu o, fz := γ1.fz, gl := γ1.gl }
  have hmu1 : ∀ o k, forth ids at_ T1.length o = some k → γ'.mu o = γ1.mu k := fun o k h => by simp [γ', h]
  have hmu0 : ∀ o, forth ids at_ T1.length o = none → γ'.mu o = γ.mu o := fun o h => by simp [γ', h]
  have hklt : ∀ o k, forth ids at_ T1.length o = some k → k < T1.length := fun o k h => by rcases (back_forth h).2 with h | h <;> omega
  have hmor : Mor (back ids at_) γ1 T1 γ' (applyW S (callW (back ids at_) T1 0)) :=
    ⟨rfl, fun k ob hk => ⟨(hmu1 _ k (forth_back hn hlt (List.getElem?_eq_some_iff.1 hk).1)).symm, hhit k ob hk⟩⟩
  have hpartmu : ∀ k o, ids[k]? = some o → (γ.part ids).mu k = γ.mu o := fun k o h => by simp [Gh.part, h]
  have hids : ∀ o, forth ids at_ T1.length o = none → ∀ k, ids[k]? ≠ some o := fun o ho k hk => by
    unfold forth at ho
    rw [posOf_nodup hn hk] at ho
    cases ho
  have hpartbl : ∀ b, blocks (γ.part ids) T b → ∃ k o, ids[k]? = some o ∧ o < S.length ∧ γ.mu o = some b := fun b ⟨k, hk, hb⟩ => by
    have e : ids[k]? = some (ids[k]'(by omega)) := by simp
    obtain ⟨ob, _, h1, _⟩ := hTg k _ e
    exact ⟨k, _, e, (List.getElem?_eq_some_iff.1 h1).1, (hpartmu k _ e) ▸ hb⟩
  have hnotpart : ∀ o b, o < S.length → forth ids at_ T1.length o = none → γ.mu o = some b → ¬ blocks (γ.part ids) T b := fun o b ho hfo hb hbl => by
    obtain ⟨k, o', h1, h2, h3⟩ := hpartbl b hbl
    have := hI.inj o o' b ho h2 hb h3
    subst this
    exact hids o hfo k h1
  have hext : Ext S.length γ S w γ' (applyW S (callW (back ids at_) T1 0)) w1 := by
    refine ⟨Nat.le_refl _, by rw [applyW_length]; exact Nat.le_refl _, he.fz, he.cell, he.size, fun o ob ho hob => ?_, fun b hb hnb => ?_, fun b ⟨o, ho, hb⟩ => ?_, fun b k h => ?_, he.os, he.output, he.tape, he.gl⟩
    · cases hfo : forth ids at_ T1.length o with
      | none =>
        have hS := hother o hfo
        rw [hob] at hS
        rw [hS]
        exact Keep.refl ob (hmu0 o hfo) fun b hb => he.rest b (hI.lt o b ho hb) (hnotpart o b ho hfo hb)
      | some k =>
        have hbk := (back_forth hfo).1
        by_cases hk : k < ids.length
        · have e : ids[k]? = some ids[k] := by simp [hk]
          have ho' : ids[k] = o := by simpa [back, e] using hbk
          rw [ho'] at e
          obtain ⟨ob1, ob2, h1, h2, h3⟩ := hTg k o e
          rw [hob] at h1
          cases h1
          have hkeep := he.obj k ob2 (by omega) h3
          have hk1 := hklt o k hfo
          have e1 : T1[k]? = some T1[k] := by simp [hk1]
          have hh := hhit k _ e1
          rw [hbk] at hh
          rw [hh]
          rw [e1] at hkeep
          exact hkeep.carry h2 (hmu1 o k hfo) (hpartmu k o e)
        · have hd := (hat k (by omega) (hklt o k hfo)).1
          have e : ids[k]? = none := by simp; omega
          have ho' : at_ + (k - ids.length) = o := by simpa [back, e] using hbk
          rw [ho', hob] at hd
          cases hd
          intro hdd
          have e1 : T1[k]? = some (T1[k]'(hklt o k hfo)) := by simp [hklt o k hfo]
          have := hhit k _ e1
          rw [hbk, hdd] at this
          have hren := Option.some.inj this
          exact absurd (e1.trans (congrArg some (AObj.ren_dead hren.symm))) (hlive k (by omega) (hklt o k hfo))
    · refine he.rest b hb fun hbl => hnb ?_
      obtain ⟨k, o, _, h2, h3⟩ := hpartbl b hbl
      exact ⟨o, h2, h3⟩
    · rw [applyW_length] at ho
      cases hfo : forth ids at_ T1.length o with
      | none => exact .inl ⟨o, ho, (hmu0 o hfo) ▸ hb⟩
      | some k =>
        rw [hmu1 o k hfo] at hb
        rcases he.own b ⟨k, hklt o k hfo, hb⟩ with h | h
        · obtain ⟨_, o', _, h2, h3⟩ := hpartbl b h
          exact .inl ⟨o', h2, h3⟩
        · exact .inr h
    · rcases he.newfz b k h with h | h | h
      · exact .inl h
      · exact .inr (.inl h)
      · obtain ⟨_, o', _, h2, h3⟩ := hpartbl b h
        exact .inr (.inr ⟨o', h2, h3⟩)
  refine ⟨γ', ⟨fun o ob hob => ?_, fun o o' b h1 h2 h3 h4 => ?_, hI1.fzin, fun o b ho hb => ?_, hI1.gl⟩, hext, hmor⟩
  · cases hfo : forth ids at_ T1.length o with
    | none =>
      rw [hother o hfo] at hob
      have ho := (List.getElem?_eq_some_iff.1 hob).1
      refine (hI.obj o ob hob).mono hext (hmu0 o hfo) fun b hb => ⟨he.rest b (hI.lt o b ho hb) (hnotpart o b ho hfo hb), fun off hf => ?_⟩
      rcases he.newfz b off hf with h | h | h
      · exact h
      · have := hI.lt o b ho hb; omega
      · exact absurd h (hnotpart o b ho hfo hb)
    | some k =>
      have hk := hklt o k hfo
      have hbk := (back_forth hfo).1
      have e : T1[k]? = some T1[k] := by simp [hk]
      have := hhit k _ e
      rw [hbk, hob] at this
      cases this
      have hok := hI1.obj k _ e
      cases hob1 : T1[k] with
      | box cs =>
        rw [hob1] at hok
        obtain ⟨b, vs, el, g1, g2, g3, g4, g5⟩ := hok
        refine ⟨b, vs, el, (hmu1 o k hfo).trans g1, g2, by rw [V.renL_length]; exact g3, fun i y v hy hv => ?_, g5⟩
        rw [V.renL_get, Option.map_eq_some_iff] at hy
        obtain ⟨x, hx, rfl⟩ := hy
        exact ⟨(g4 i x v hx hv).1, (g4 i x v hx hv).2.ren hmor⟩
      | tok e' f sz =>
        rw [hob1] at hok
        intro b hb
        exact hok b ((hmu1 o k hfo) ▸ hb)
      | row e' sz xs =>
        rw [hob1] at hok
        exact ⟨fun hn => hok.1 ((hmu1 o k hfo) ▸ hn), fun b hb => hok.2 b ((hmu1 o k hfo) ▸ hb)⟩
      | fro e' sz xs =>
        rw [hob1] at hok
        exact ⟨fun hn => hok.1 ((hmu1 o k hfo) ▸ hn), fun b hb => hok.2 b ((hmu1 o k hfo) ▸ hb)⟩
      | map kvs =>
        rw [hob1] at hok
        obtain ⟨r, es, clock, g1, g2⟩ := hok
        exact ⟨r, es, clock, (hmu1 o k hfo).trans g1, g2⟩
      | dead => trivial
      | gone =>
        rw [hob1] at hok
        exact (hmu1 o k hfo).trans hok
  · rw [applyW_length] at h1 h2
    have cross : ∀ o o' b, o < S.length → o' < S.length → ∀ k, forth ids at_ T1.length o = some k → forth ids at_ T1.length o' = none → γ'.mu o = some b → γ'.mu o' = some b → False := fun o o' b h1 h2 k hfo hfo' h3 h4 => by
      rw [hmu1 o k hfo] at h3
      rw [hmu0 o' hfo'] at h4
      rcases he.own b ⟨k, hklt o k hfo, h3⟩ with h | h
      · exact hnotpart o' b h2 hfo' h4 h
      · have := hI.lt o' b h2 h4; omega
    cases hfo : forth ids at_ T1.length o with
    | none =>
      cases hfo' : forth ids at_ T1.length o' with
      | none => exact hI.inj o o' b h1 h2 ((hmu0 o hfo) ▸ h3) ((hmu0 o' hfo') ▸ h4)
      | some k' => exact (cross o' o b h2 h1 k' hfo' hfo h4 h3).elim
    | some k =>
      cases hfo' : forth ids at_ T1.length o' with
      | none => exact (cross o o' b h1 h2 k hfo hfo' h3 h4).elim
      | some k' =>
        have := hI1.inj k k' b (hklt o k hfo) (hklt o' k' hfo') ((hmu1 o k hfo) ▸ h3) ((hmu1 o' k' hfo') ▸ h4)
        subst this
        rw [← (back_forth hfo).1, (back_forth hfo').1]
  · rw [applyW_length] at ho
    cases hfo : forth ids at_ T1.length o with
    | none => exact Nat.lt_of_lt_of_le (hI.lt o b ho ((hmu0 o hfo) ▸ hb)) he.size
    | some k => exact hI1.lt k b (hklt o k hfo) ((hmu1 o k hfo) ▸ hb)

end
end Go.Wm
