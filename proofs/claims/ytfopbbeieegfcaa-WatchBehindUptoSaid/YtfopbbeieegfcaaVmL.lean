/-
  A part of the proof: an abstract run of the program, shown to be what the model does, and what it comes to.
-/
import Derived.Test.YtfopbbeieegfcaaVmK
set_option linter.unusedVariables false
set_option linter.unusedSimpArgs false
set_option linter.unusedSectionVars false
set_option linter.unnecessarySimpa false
namespace Go.Vm
open Go

mutual
def V.ren (σ : Nat → Nat) : V → V
  | .any => .any
  | .d x => .d x
  | .own t nn sz xs => .own (σ t) nn sz xs
  | .fsl nn sz xs => .fsl nn sz xs
  | .ptr o off => .ptr (σ o) off
  | .cptr sz x off => .cptr sz x off
  | .fn f a c => .fn f (V.renL σ a) (V.renL σ c)
  | .agg cs => .agg (V.renL σ cs)
  | .tup cs => .tup (V.renL σ cs)
def V.renL (σ : Nat → Nat) : List V → List V
  | [] => []
  | x :: r => V.ren σ x :: V.renL σ r
end
mutual
def V.unren (f : Nat → Option Nat) : V → Option V
  | .any => some .any
  | .d x => some (.d x)
  | .own t nn sz xs => (f t).map fun t => .own t nn sz xs
  | .fsl nn sz xs => some (.fsl nn sz xs)
  | .ptr o off => (f o).map fun o => .ptr o off
  | .cptr sz x off => some (.cptr sz x off)
  | .fn g a c => (V.unrenL f a).bind fun a => (V.unrenL f c).map fun c => .fn g a c
  | .agg cs => (V.unrenL f cs).map .agg
  | .tup cs => (V.unrenL f cs).map .tup
def V.unrenL (f : Nat → Option Nat) : List V → Option (List V)
  | [] => some []
  | x :: r => (V.unren f x).bind fun x => (V.unrenL f r).map fun r => x :: r
end
mutual
def V.refs : V → List Nat
  | .own t _ _ _ => [t]
  | .ptr o _ => [o]
  | .fn _ a c => V.refsL a ++ V.refsL c
  | .agg cs => V.refsL cs
  | .tup cs => V.refsL cs
  | _ => []
def V.refsL : List V → List Nat
  | [] => []
  | x :: r => V.refs x ++ V.refsL r
end
def AObj.ren (σ : Nat → Nat) : AObj → AObj
  | .box cs => .box (V.renL σ cs)
  | .tok e f sz => .tok e f sz
  | .dead => .dead
def AObj.unren (f : Nat → Option Nat) : AObj → Option AObj
  | .box cs => (V.unrenL f cs).map .box
  | .tok e k sz => some (.tok e k sz)
  | .dead => some .dead
def AObj.refs : AObj → List Nat
  | .box cs => V.refsL cs
  | _ => []

theorem V.renL_get (σ : Nat → Nat) : ∀ (cs : List V) (j : Nat), (V.renL σ cs)[j]? = (cs[j]?).map (V.ren σ)
  | [], j => by simp [V.renL]
  | x :: r, 0 => by simp [V.renL]
  | x :: r, j + 1 => by simpa [V.renL] using V.renL_get σ r j
theorem V.renL_length (σ : Nat → Nat) : ∀ (cs : List V), (V.renL σ cs).length = cs.length
  | [] => rfl
  | x :: r => by simp [V.renL, V.renL_length σ r]
theorem V.unrenL_get (f : Nat → Option Nat) : ∀ {cs ds : List V}, V.unrenL f cs = some ds → ds.length = cs.length ∧ ∀ (j : Nat) (y : V), ds[j]? = some y → ∃ x, cs[j]? = some x ∧ V.unren f x = some y
  | [], ds, h => by simp [V.unrenL] at h; subst h; exact ⟨rfl, fun j y h => by simp at h⟩
  | x :: r, ds, h => by
    simp only [V.unrenL] at h
    cases hx : V.unren f x with
    | none => simp [hx] at h
    | some y =>
      simp only [hx, Option.bind_some, Option.map_eq_some_iff] at h
      obtain ⟨zs, h, rfl⟩ := h
      obtain ⟨h1, h2⟩ := V.unrenL_get f h
      refine ⟨by simp [h1], fun j z hz => ?_⟩
      cases j with
      | zero => simp at hz; subst hz; exact ⟨x, rfl, hx⟩
      | succ j => simp at hz; exact h2 j z hz

/-- the state at the right, seen from the one at the left -/
structure Mor (σ : Nat → Nat) (γ' : Gh) (S' : St) (γ : Gh) (S : St) : Prop where
  fz : γ'.fz = γ.fz
  obj : ∀ o ob, S'[o]? = some ob → γ'.mu o = γ.mu (σ o) ∧ S[σ o]? = some (ob.ren σ)

theorem RV.ren {σ : Nat → Nat} {γ γ' : Gh} {S S' : St} {w : World} (m : Mor σ γ' S' γ S) {x : V} {v : Value} (h : RV γ' S' w x v) : RV γ S w (x.ren σ) v := by
  induction h with
  | any v => exact .any v
  | d x v h => rw [m.fz] at h; exact .d x v h
  | own t nn e sz f xs v ht hf hd hk =>
    obtain ⟨h1, h2⟩ := m.obj t _ ht
    rw [m.fz] at hd
    refine .own (σ t) nn e sz f xs v h2 hf hd fun hx => ?_
    rcases hk hx with h | h | ⟨b, cap, cur, g1, g2⟩
    · exact .inl h
    · exact .inr (.inl h)
    · exact .inr (.inr ⟨b, cap, cur, h1 ▸ g1, g2⟩)
  | fsl nn sz xs a hd => rw [m.fz] at hd; exact .fsl nn sz xs a hd
  | ptr o off b cs ho hb =>
    obtain ⟨h1, h2⟩ := m.obj o _ ho
    exact .ptr (σ o) off b _ h2 (h1 ▸ hb)
  | cptr sz off b o x vs hsz hc hr => rw [m.fz] at hc hr; exact .cptr sz off b o x vs hsz hc hr
  | fn f first cap vf vc h1 h2 hf hc ih1 ih2 =>
    refine .fn f _ _ vf vc (by rw [V.renL_length]; exact h1) (by rw [V.renL_length]; exact h2) (fun j y v hy hv => ?_) (fun j y v hy hv => ?_) <;>
      (rw [V.renL_get, Option.map_eq_some_iff] at hy; obtain ⟨z, hz, rfl⟩ := hy)
    · exact ih1 j z v hz hv
    · exact ih2 j z v hz hv
  | agg cs vs hl h1 hr ih =>
    refine .agg _ vs (by rw [V.renL_length]; exact hl) h1 (fun j y v hy hv => ?_)
    rw [V.renL_get, Option.map_eq_some_iff] at hy; obtain ⟨z, hz, rfl⟩ := hy
    exact ih j z v hz hv
  | tup cs vs hl hr ih =>
    refine .tup _ vs (by rw [V.renL_length]; exact hl) (fun j y v hy hv => ?_)
    rw [V.renL_get, Option.map_eq_some_iff] at hy; obtain ⟨z, hz, rfl⟩ := hy
    exact ih j z v hz hv

theorem RV.unren {f : Nat → Option Nat} {γ γ' : Gh} {S S' : St} {w : World} (hfz : γ'.fz = γ.fz)
    (m : ∀ o o' ob, f o = some o' → S[o]? = some ob → γ'.mu o' = γ.mu o ∧ ∃ ob', ob.unren f = some ob' ∧ S'[o']? = some ob')
    {x : V} {v : Value} (h : RV γ S w x v) : ∀ {y : V}, x.unren f = some y → RV γ' S' w y v := by
  induction h with
  | any v => intro y hy; simp only [V.unren, Option.some.injEq] at hy; subst hy; exact .any v
  | d x v h => intro y hy; simp only [V.unren, Option.some.injEq] at hy; subst hy; rw [← hfz] at h; exact .d x v h
  | own t nn e sz k xs v ht hf hd hk =>
    intro y hy
    simp only [V.unren, Option.map_eq_some_iff] at hy
    obtain ⟨t', ht', rfl⟩ := hy
    obtain ⟨h1, ob', h2, h3⟩ := m t t' _ ht' ht
    simp only [AObj.unren, Option.some.injEq] at h2
    subst h2
    rw [← hfz] at hd
    refine .own t' nn e sz k xs v h3 hf hd fun hx => ?_
    rcases hk hx with h | h | ⟨b, cap, cur, g1, g2⟩
    · exact .inl h
    · exact .inr (.inl h)
    · exact .inr (.inr ⟨b, cap, cur, h1.trans g1, g2⟩)
  | fsl nn sz xs a hd => intro y hy; simp only [V.unren, Option.some.injEq] at hy; subst hy; rw [← hfz] at hd; exact .fsl nn sz xs a hd
  | ptr o off b cs ho hb =>
    intro y hy
    simp only [V.unren, Option.map_eq_some_iff] at hy
    obtain ⟨o', ho', rfl⟩ := hy
    obtain ⟨h1, ob', h2, h3⟩ := m o o' _ ho' ho
    simp only [AObj.unren, Option.map_eq_some_iff] at h2
    obtain ⟨ds, _, rfl⟩ := h2
    exact .ptr o' off b ds h3 (h1.trans hb)
  | cptr sz off b o x vs hsz hc hr => intro y hy; simp only [V.unren, Option.some.injEq] at hy; subst hy; rw [← hfz] at hc hr; exact .cptr sz off b o x vs hsz hc hr
  | fn g first cap vf vc h1 h2 hf hc ih1 ih2 =>
    intro y hy
    simp only [V.unren] at hy
    cases ha : V.unrenL f first with
    | none => simp [ha] at hy
    | some a =>
      simp only [ha, Option.bind_some, Option.map_eq_some_iff] at hy
      obtain ⟨c, hcc, rfl⟩ := hy
      obtain ⟨l1, g1⟩ := V.unrenL_get f ha
      obtain ⟨l2, g2⟩ := V.unrenL_get f hcc
      refine .fn g a c vf vc (by omega) (by omega) (fun j y v hy hv => ?_) (fun j y v hy hv => ?_)
      · obtain ⟨z, hz, hzy⟩ := g1 j y hy
        exact ih1 j z v hz hv hzy
      · obtain ⟨z, hz, hzy⟩ := g2 j y hy
        exact ih2 j z v hz hv hzy
  | agg cs vs hl h1 hr ih =>
    intro y hy
    simp only [V.unren, Option.map_eq_some_iff] at hy
    obtain ⟨ds, hds, rfl⟩ := hy
    obtain ⟨l1, g1⟩ := V.unrenL_get f hds
    refine .agg ds vs (by omega) h1 (fun j y v hy hv => ?_)
    obtain ⟨z, hz, hzy⟩ := g1 j y hy
    exact ih j z v hz hv hzy
  | tup cs vs hl hr ih =>
    intro y hy
    simp only [V.unren, Option.map_eq_some_iff] at hy
    obtain ⟨ds, hds, rfl⟩ := hy
    obtain ⟨l1, g1⟩ := V.unrenL_get f hds
    refine .tup ds vs (by omega) (fun j y v hy hv => ?_)
    obtain ⟨z, hz, hzy⟩ := g1 j y hy
    exact ih j z v hz hv hzy

mutual
/-- what one may know of a value when nobody will append to it -/
def V.freeze : V → V
  | .own _ nn sz xs => .d (.sl (nn && xs.isEmpty) sz xs)
  | .fsl nn sz xs => .d (.sl nn sz xs)
  | .tup cs => .tup (V.freezeL cs)
  | .any => .any
  | .d x => .d x
  | .ptr o off => .ptr o off
  | .cptr sz x off => .cptr sz x off
  | .fn f a c => .fn f a c
  | .agg cs => .agg cs
def V.freezeL : List V → List V
  | [] => []
  | x :: r => V.freeze x :: V.freezeL r
end
theorem V.freezeL_get : ∀ (cs : List V) (j : Nat), (V.freezeL cs)[j]? = (cs[j]?).map V.freeze
  | [], j => by simp [V.freezeL]
  | x :: r, 0 => by simp [V.freezeL]
  | x :: r, j + 1 => by simpa [V.freezeL] using V.freezeL_get r j
theorem V.freezeL_length : ∀ (cs : List V), (V.freezeL cs).length = cs.length
  | [] => rfl
  | x :: r => by simp [V.freezeL, V.freezeL_length r]
theorem RV.freeze {γ : Gh} {S : St} {w : World} {x : V} {v : Value} (h : RV γ S w x v) : RV γ S w x.freeze v := by
  induction h with
  | any v => exact .any v
  | d x v h => exact .d x v h
  | own t nn e sz f xs v ht hf hd hk => exact .d _ _ hd
  | fsl nn sz xs a hd => exact .d _ _ hd
  | ptr o off b cs ho hb => exact .ptr o off b cs ho hb
  | cptr sz off b o x vs hsz hc hr => exact .cptr sz off b o x vs hsz hc hr
  | fn f first cap vf vc h1 h2 hf hc ih1 ih2 => exact .fn f first cap vf vc h1 h2 hf hc
  | agg cs vs hl h1 hr ih => exact .agg cs vs hl h1 hr
  | tup cs vs hl hr ih =>
    refine .tup _ vs (by rw [V.freezeL_length]; exact hl) fun j y v hy hv => ?_
    rw [V.freezeL_get, Option.map_eq_some_iff] at hy
    obtain ⟨z, hz, rfl⟩ := hy
    exact ih j z v hz hv


mutual
theorem V.refs_freeze : ∀ (v : V), v.refs = [] → v.freeze.refs = []
  | .any, _ => rfl
  | .d x, _ => rfl
  | .own t nn sz xs, _ => rfl
  | .fsl nn sz xs, _ => rfl
  | .ptr o off, h => by simp [V.refs] at h
  | .cptr sz x off, _ => rfl
  | .fn g a c, h => by simpa [V.freeze] using h
  | .agg cs, h => by simpa [V.freeze] using h
  | .tup cs, h => by
    simp only [V.refs] at h
    simp only [V.freeze, V.refs]
    exact V.refsL_freezeL cs h
theorem V.refsL_freezeL : ∀ (l : List V), V.refsL l = [] → V.refsL (V.freezeL l) = []
  | [], _ => rfl
  | x :: r, h => by
    simp only [V.refsL, List.append_eq_nil_iff] at h
    simp only [V.freezeL, V.refsL, V.refs_freeze x h.1, V.refsL_freezeL r h.2, List.append_nil]
end

/-! ### a part of a state, by numbers -/
def posOf : List Nat → Nat → Option Nat
  | [], _ => none
  | i :: r, o => if i = o then some 0 else (posOf r o).map (· + 1)
theorem posOf_some : ∀ {ids : List Nat} {o k : Nat}, posOf ids o = some k → ids[k]? = some o
  | [], _, _, h => by simp [posOf] at h
  | i :: r, o, k, h => by
    simp only [posOf] at h
    by_cases hi : i = o
    · rw [if_pos hi] at h; cases h; simp [hi]
    · rw [if_neg hi, Option.map_eq_some_iff] at h
      obtain ⟨j, hj, rfl⟩ := h
      simpa using posOf_some hj
theorem posOf_nodup : ∀ {ids : List Nat} {o k : Nat}, ids.Nodup → ids[k]? = some o → posOf ids o = some k
  | [], _, _, _, h => by simp at h
  | i :: r, o, 0, hn, h => by simp at h; simp [posOf, h]
  | i :: r, o, k + 1, hn, h => by
    simp at h
    have hmem := List.mem_of_getElem? h
    have hne : i ≠ o := fun e => (List.nodup_cons.1 hn).1 (e ▸ hmem)
    simp only [posOf, if_neg hne]
    rw [posOf_nodup (List.nodup_cons.1 hn).2 h]
    rfl
def focus (f : Nat → Option Nat) (S : St) : List Nat → Option St
  | [] => some []
  | i :: r => (S[i]?).bind fun ob => (ob.unren f).bind fun ob => (focus f S r).map fun T => ob :: T
theorem focus_get {f : Nat → Option Nat} {S : St} : ∀ {ids : List Nat} {T : St}, focus f S ids = some T → T.length = ids.length ∧ ∀ (k : Nat) (o : Nat), ids[k]? = some o → ∃ ob ob', S[o]? = some ob ∧ ob.unren f = some ob' ∧ T[k]? = some ob'
  | [], T, h => by simp [focus] at h; subst h; exact ⟨rfl, fun k o h => by simp at h⟩
  | i :: r, T, h => by
    simp only [focus] at h
    cases hi : S[i]? with
    | none => simp [hi] at h
    | some ob =>
      cases hu : ob.unren f with
      | none => simp [hi, hu] at h
      | some ob' =>
        simp only [hi, hu, Option.bind_some, Option.map_eq_some_iff] at h
        obtain ⟨T', h, rfl⟩ := h
        obtain ⟨h1, h2⟩ := focus_get h
        refine ⟨by simp [h1], fun k o hk => ?_⟩
        cases k with
        | zero => simp at hk; subst hk; exact ⟨ob, ob', hi, hu, rfl⟩
        | succ k => simp at hk; obtain ⟨a, b, c⟩ := h2 k o hk; exact ⟨a, b, by simpa using c⟩

def Gh.part (γ : Gh) (ids : List Nat) : Gh := { mu := fun k => (ids[k]?).bind γ.mu, fz := γ.fz }

theorem RV.part {ids : List Nat} {γ : Gh} {S T : St} {w : World} (hf : focus (posOf ids) S ids = some T) {x : V} {v : Value} (h : RV γ S w x v) {y : V} (hy : x.unren (posOf ids) = some y) : RV (γ.part ids) T w y v :=
  RV.unren (f := posOf ids) (γ := γ) (S := S) (S' := T) (γ' := γ.part ids) rfl (fun o o' ob ho hob => by
    have hp := posOf_some ho
    obtain ⟨a, b, h1, h2, h3⟩ := (focus_get hf).2 o' o hp
    rw [hob] at h1
    cases h1
    exact ⟨by simp [Gh.part, hp], b, h2, h3⟩) h hy

theorem Inv.part {ids : List Nat} {γ : Gh} {S T : St} {w : World} (hI : Inv γ S w) (hn : ids.Nodup) (hf : focus (posOf ids) S ids = some T) : Inv (γ.part ids) T w := by
  obtain ⟨hl, hg⟩ := focus_get hf
  have hid : ∀ k, k < T.length → ∃ o, ids[k]? = some o := fun k hk => ⟨ids[k]'(by omega), by simp⟩
  refine ⟨fun k ob' hk => ?_, fun k k' b h1 h2 h3 h4 => ?_, hI.fzin, fun k b hk hb => ?_⟩
  · obtain ⟨o, ho⟩ := hid k (List.getElem?_eq_some_iff.1 hk).1
    obtain ⟨ob, ob2, h1, h2, h3⟩ := hg k o ho
    rw [hk] at h3
    cases h3
    have hok := hI.obj o ob h1
    have hmu : (γ.part ids).mu k = γ.mu o := by simp [Gh.part, ho]
    cases ob with
    | box cs =>
      simp only [AObj.unren, Option.map_eq_some_iff] at h2
      obtain ⟨ds, hds, rfl⟩ := h2
      obtain ⟨b, vs, e, g1, g2, g3, g4, g5⟩ := hok
      obtain ⟨l1, u1⟩ := V.unrenL_get _ hds
      refine ⟨b, vs, e, hmu.trans g1, g2, by omega, fun i y v hy hv => ?_, g5⟩
      obtain ⟨x, hx, hxy⟩ := u1 i y hy
      exact ⟨(g4 i x v hx hv).1, (g4 i x v hx hv).2.part hf hxy⟩
    | tok e f sz =>
      simp only [AObj.unren, Option.some.injEq] at h2
      subst h2
      intro b hb
      exact hok b (hmu ▸ hb)
    | dead =>
      simp only [AObj.unren, Option.some.injEq] at h2
      subst h2
      trivial
  · obtain ⟨o, ho⟩ := hid k h1
    obtain ⟨o', ho'⟩ := hid k' h2
    obtain ⟨ob, _, g1, _⟩ := hg k o ho
    obtain ⟨ob', _, g1', _⟩ := hg k' o' ho'
    simp only [Gh.part, ho, ho', Option.bind_some] at h3 h4
    have := hI.inj o o' b (List.getElem?_eq_some_iff.1 g1).1 (List.getElem?_eq_some_iff.1 g1').1 h3 h4
    subst this
    have e1 := posOf_nodup hn ho
    have e2 := posOf_nodup hn ho'
    rw [e1] at e2
    exact Option.some.inj e2
  · obtain ⟨o, ho⟩ := hid k hk
    obtain ⟨ob, _, g1, _⟩ := hg k o ho
    simp only [Gh.part, ho, Option.bind_some] at hb
    exact hI.lt o b (List.getElem?_eq_some_iff.1 g1).1 hb

/-! ### writes -/
def applyW (S : St) (W : List (Nat × AObj)) : St := W.foldl (fun S p => S.set p.1 p.2) S
theorem applyW_length (S : St) (W : List (Nat × AObj)) : (applyW S W).length = S.length := by
  unfold applyW
  induction W generalizing S with
  | nil => rfl
  | cons p W ih => rw [List.foldl_cons, ih]; simp
theorem applyW_other {S : St} {W : List (Nat × AObj)} {o : Nat} (h : ∀ p ∈ W, p.1 ≠ o) : (applyW S W)[o]? = S[o]? := by
  unfold applyW
  induction W generalizing S with
  | nil => rfl
  | cons p W ih =>
    rw [List.foldl_cons, ih (fun q hq => h q (List.mem_cons_of_mem _ hq)), List.getElem?_set_ne (h p (by simp))]
theorem applyW_hit {W : List (Nat × AObj)} : ∀ {S : St} {p : Nat × AObj}, (W.map (·.1)).Nodup → p ∈ W → p.1 < S.length → (applyW S W)[p.1]? = some p.2 := by
  induction W with
  | nil => intro S p _ h; cases h
  | cons q W ih =>
    intro S p hn h hlt
    simp only [List.map_cons, List.nodup_cons] at hn
    show (applyW (S.set q.1 q.2) W)[p.1]? = some p.2
    rcases List.mem_cons.1 h with rfl | h
    · rw [applyW_other (fun r hr e => hn.1 (List.mem_map.2 ⟨r, hr, e⟩))]
      simp [hlt]
    · exact ih hn.2 h (by simpa using hlt)

end Go.Vm
