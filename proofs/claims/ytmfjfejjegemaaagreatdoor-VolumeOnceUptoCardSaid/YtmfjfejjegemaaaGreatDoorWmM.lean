/-
  A part of the proof: an abstract run of the program, shown to be what the model does, and what it comes to.
-/
import Derived.Test.YtmfjfejjegemaaaGreatDoorWmL
set_option linter.unusedVariables false
set_option linter.unusedSimpArgs false
set_option linter.unnecessarySimpa false
set_option linter.defProp false
set_option linter.unusedSectionVars false
namespace Go.Wm
open Go
variable [GlobReq]

mutual
def V.ren (σ : Nat → Nat) : V → V
  | .any => .any
  | .und => .und
  | .d x => .d x
  | .nil => .nil
  | .emp => .emp
  | .own t xs => .own (σ t) xs
  | .fsl xs => .fsl xs
  | .sl o lo n => .sl (σ o) lo n
  | .csl o lo n => .csl (σ o) lo n
  | .ptr o off => .ptr (σ o) off
  | .eptr o i off => .eptr (σ o) i off
  | .cptr x off => .cptr x off
  | .mp o => .mp (σ o)
  | .fn f a c => .fn f (V.renL σ a) (V.renL σ c)
  | .agg cs => .agg (V.renL σ cs)
  | .tup cs => .tup (V.renL σ cs)
def V.renL (σ : Nat → Nat) : List V → List V
  | [] => []
  | x :: r => V.ren σ x :: V.renL σ r
end
mutual
def V.unren (f : Nat → Option Nat) : V → Option V
  | .any => some .any
  | .und => some .und
  | .d x => some (.d x)
  | .nil => some .nil
  | .emp => some .emp
  | .own t xs => (f t).map fun t => .own t xs
  | .fsl xs => some (.fsl xs)
  | .sl o lo n => (f o).map fun o => .sl o lo n
  | .csl o lo n => (f o).map fun o => .csl o lo n
  | .ptr o off => (f o).map fun o => .ptr o off
  | .eptr o i off => (f o).map fun o => .eptr o i off
  | .cptr x off => some (.cptr x off)
  | .mp o => (f o).map fun o => .mp o
  | .fn g a c => (V.unrenL f a).bind fun a => (V.unrenL f c).map fun c => .fn g a c
  | .agg cs => (V.unrenL f cs).map .agg
  | .tup cs => (V.unrenL f cs).map .tup
def V.unrenL (f : Nat → Option Nat) : List V → Option (List V)
  | [] => some []
  | x :: r => (V.unren f x).bind fun x => (V.unrenL f r).map fun r => x :: r
end
mutual
def V.refs : V → List Nat
  | .own t _ => [t]
  | .sl o _ _ => [o]
  | .csl o _ _ => [o]
  | .ptr o _ => [o]
  | .eptr o _ _ => [o]
  | .mp o => [o]
  | .fn _ a c => V.refsL a ++ V.refsL c
  | .agg cs => V.refsL cs
  | .tup cs => V.refsL cs
  | _ => []
def V.refsL : List V → List Nat
  | [] => []
  | x :: r => V.refs x ++ V.refsL r
end
def AObj.ren (σ : Nat → Nat) : AObj → AObj
  | .box cs => .box (V.renL σ cs)
  | .tok e f sz => .tok e f sz
  | .row e sz xs => .row e sz xs
  | .fro e sz xs => .fro e sz xs
  | .map kvs => .map kvs
  | .dead => .dead
  | .gone => .gone
def AObj.unren (f : Nat → Option Nat) : AObj → Option AObj
  | .box cs => (V.unrenL f cs).map .box
  | .tok e k sz => some (.tok e k sz)
  | .row e sz xs => some (.row e sz xs)
  | .fro e sz xs => some (.fro e sz xs)
  | .map kvs => some (.map kvs)
  | .dead => some .dead
  | .gone => some .gone
def AObj.refs : AObj → List Nat
  | .box cs => V.refsL cs
  | _ => []

theorem V.renL_get (σ : Nat → Nat) : ∀ (cs : List V) (j : Nat), (V.renL σ cs)[j]? = (cs[j]?).map (V.ren σ)
  | [], j => by simp [V.renL]
  | x :: r, 0 => by simp [V.renL]
  | x :: r, j + 1 => by simpa [V.renL] using V.renL_get σ r j
theorem V.renL_length (σ : Nat → Nat) : ∀ (cs : List V), (V.renL σ cs).length = cs.length
  | [] => rfl
  | x :: r => by simp [V.renL, V.renL_length σ r]
theorem V.unrenL_get (f : Nat → Option Nat) : ∀ {cs ds : List V}, V.unrenL f cs = some ds → ds.length = cs.length ∧ ∀ (j : Nat) (y : V), ds[j]? = some y → ∃ x, cs[j]? = some x ∧ V.unren f x = some y
  | [], ds, h => by simp [V.unrenL] at h; subst h; exact ⟨rfl, fun j y h => by simp at h⟩
  | x :: r, ds, h => by
    simp only [V.unrenL] at h
    cases hx : V.unren f x with
    | none => simp [hx] at h
    | some y =>
      simp only [hx, Option.bind_some, Option.map_eq_some_iff] at h
      obtain ⟨zs, h, rfl⟩ := h
      obtain ⟨h1, h2⟩ := V.unrenL_get f h
      refine ⟨by simp [h1], fun j z hz => ?_⟩
      cases j with
      | zero => simp at hz; subst hz; exact ⟨x, rfl, hx⟩
      | succ j => simp at hz; exact h2 j z hz

/-- the state at the right, seen from the one at the left -/
structure Mor (σ : Nat → Nat) (γ' : Gh) (S' : St) (γ : Gh) (S : St) : Prop where
  fz : γ'.fz = γ.fz
  obj : ∀ o ob, S'[o]? = some ob → γ'.mu o = γ.mu (σ o) ∧ S[σ o]? = some (ob.ren σ)

theorem AObj.ren_rowOf (σ : Nat → Nat) (ob : AObj) : (ob.ren σ).rowOf = ob.rowOf := by cases ob <;> rfl
theorem AObj.ren_isRow {σ : Nat → Nat} {ob : AObj} (h : ob.isRow) : (ob.ren σ).isRow := by
  rcases h with rfl | ⟨r, h⟩
  · exact .inl rfl
  · exact .inr ⟨r, by rw [AObj.ren_rowOf]; exact h⟩
theorem AObj.unren_rowOf {f : Nat → Option Nat} {ob ob' : AObj} (h : ob.unren f = some ob') (hb : ob.isRow) : ob'.isRow ∧ ob'.rowOf = ob.rowOf := by
  rcases hb with rfl | ⟨r, hb⟩
  · simp only [AObj.unren, Option.some.injEq] at h; subst h; exact ⟨.inl rfl, rfl⟩
  · cases ob <;> simp only [AObj.rowOf, reduceCtorEq] at hb
    all_goals (simp only [AObj.unren, Option.some.injEq] at h; subst h; exact ⟨.inr ⟨_, rfl⟩, rfl⟩)

theorem RV.ren {σ : Nat → Nat} {γ γ' : Gh} {S S' : St} {w : World} (m : Mor σ γ' S' γ S) {x : V} {v : Value} (h : RV γ' S' w x v) : RV γ S w (x.ren σ) v := by
  induction h with
  | any v => exact .any v
  | und => exact .und
  | d x v h => rw [m.fz] at h; exact .d x v h
  | nil => exact .nil
  | emp a c hc => exact .emp a c hc
  | own t e sz f xs v ht hf hd hk hz =>
    obtain ⟨h1, h2⟩ := m.obj t _ ht
    rw [m.fz] at hd
    refine .own (σ t) e sz f xs v h2 hf hd (fun hx => ?_) hz
    rcases hk hx with h | h | ⟨b, cap, cur, g1, g2⟩
    · exact .inl h
    · exact .inr (.inl h)
    · exact .inr (.inr ⟨b, cap, cur, h1 ▸ g1, g2⟩)
  | fsl xs a hd => rw [m.fz] at hd; exact .fsl xs a hd
  | csl0 o lo a => exact .csl0 (σ o) lo a
  | csl o lo n cap a h ih => exact .csl (σ o) lo n cap a (by simpa only [V.ren] using ih)
  | sl o lo n ob v hv ho hb h =>
    obtain ⟨h1, h2⟩ := m.obj o _ ho
    refine .sl (σ o) lo n _ v hv h2 (AObj.ren_isRow hb) fun e sz xs hr => ?_
    rw [AObj.ren_rowOf] at hr
    obtain ⟨q1, q2⟩ := h e sz xs hr
    exact ⟨q1, q2.imp id fun ⟨b, cap, cur, g1, g2⟩ => ⟨b, cap, cur, h1 ▸ g1, g2⟩⟩
  | ptr o off b cs ho hb =>
    obtain ⟨h1, h2⟩ := m.obj o _ ho
    exact .ptr (σ o) off b _ h2 (h1 ▸ hb)
  | eptr o i off ob a ho hb h =>
    obtain ⟨h1, h2⟩ := m.obj o _ ho
    refine .eptr (σ o) i off _ a h2 (AObj.ren_isRow hb) fun e sz xs hr => ?_
    rw [AObj.ren_rowOf] at hr
    obtain ⟨b, q1, q2⟩ := h e sz xs hr
    exact ⟨b, h1 ▸ q1, q2⟩
  | cptr off b o x vs hc hr => rw [m.fz] at hc hr; exact .cptr off b o x vs hc hr
  | mp o r kvs ho hb =>
    obtain ⟨h1, h2⟩ := m.obj o _ ho
    exact .mp (σ o) r _ h2 (h1 ▸ hb)
  | fn f first cap vf vc h1 h2 hf hc ih1 ih2 =>
    refine .fn f _ _ vf vc (by rw [V.renL_length]; exact h1) (by rw [V.renL_length]; exact h2) (fun j y v hy hv => ?_) (fun j y v hy hv => ?_) <;>
      (rw [V.renL_get, Option.map_eq_some_iff] at hy; obtain ⟨z, hz, rfl⟩ := hy)
    · exact ih1 j z v hz hv
    · exact ih2 j z v hz hv
  | agg cs vs hl h1 hr ih =>
    refine .agg _ vs (by rw [V.renL_length]; exact hl) h1 (fun j y v hy hv => ?_)
    rw [V.renL_get, Option.map_eq_some_iff] at hy; obtain ⟨z, hz, rfl⟩ := hy
    exact ih j z v hz hv
  | tup cs vs hl hr ih =>
    refine .tup _ vs (by rw [V.renL_length]; exact hl) (fun j y v hy hv => ?_)
    rw [V.renL_get, Option.map_eq_some_iff] at hy; obtain ⟨z, hz, rfl⟩ := hy
    exact ih j z v hz hv

theorem RV.unren {f : Nat → Option Nat} {γ γ' : Gh} {S S' : St} {w : World} (hfz : γ'.fz = γ.fz)
    (m : ∀ o o' ob, f o = some o' → S[o]? = some ob → γ'.mu o' = γ.mu o ∧ ∃ ob', ob.unren f = some ob' ∧ S'[o']? = some ob')
    {x : V} {v : Value} (h : RV γ S w x v) : ∀ {y : V}, x.unren f = some y → RV γ' S' w y v := by
  induction h with
  | any v => intro y hy; simp only [V.unren, Option.some.injEq] at hy; subst hy; exact .any v
  | und => intro y hy; simp only [V.unren, Option.some.injEq] at hy; subst hy; exact .und
  | d x v h => intro y hy; simp only [V.unren, Option.some.injEq] at hy; subst hy; rw [← hfz] at h; exact .d x v h
  | nil => intro y hy; simp only [V.unren, Option.some.injEq] at hy; subst hy; exact .nil
  | emp a c hc => intro y hy; simp only [V.unren, Option.some.injEq] at hy; subst hy; exact .emp a c hc
  | own t e sz k xs v ht hf hd hk hz =>
    intro y hy
    simp only [V.unren, Option.map_eq_some_iff] at hy
    obtain ⟨t', ht', rfl⟩ := hy
    obtain ⟨h1, ob', h2, h3⟩ := m t t' _ ht' ht
    simp only [AObj.unren, Option.some.injEq] at h2
    subst h2
    rw [← hfz] at hd
    refine .own t' e sz k xs v h3 hf hd (fun hx => ?_) hz
    rcases hk hx with h | h | ⟨b, cap, cur, g1, g2⟩
    · exact .inl h
    · exact .inr (.inl h)
    · exact .inr (.inr ⟨b, cap, cur, h1.trans g1, g2⟩)
  | fsl xs a hd => intro y hy; simp only [V.unren, Option.some.injEq] at hy; subst hy; rw [← hfz] at hd; exact .fsl xs a hd
  | csl0 o lo a =>
    intro y hy
    simp only [V.unren, Option.map_eq_some_iff] at hy
    obtain ⟨o', ho', rfl⟩ := hy
    exact .csl0 o' lo a
  | csl o lo n cap a h ih =>
    intro y hy
    simp only [V.unren, Option.map_eq_some_iff] at hy
    obtain ⟨o', ho', rfl⟩ := hy
    exact .csl o' lo n cap a (ih (y := .sl o' lo n) (by simp only [V.unren, ho', Option.map_some]))
  | sl o lo n ob v hv ho hb h =>
    intro y hy
    simp only [V.unren, Option.map_eq_some_iff] at hy
    obtain ⟨o', ho', rfl⟩ := hy
    obtain ⟨h1, ob', h2, h3⟩ := m o o' _ ho' ho
    obtain ⟨k1, k2⟩ := AObj.unren_rowOf h2 hb
    refine .sl o' lo n ob' v hv h3 k1 fun e sz xs hr => ?_
    rw [k2] at hr
    obtain ⟨q1, q2⟩ := h e sz xs hr
    exact ⟨q1, q2.imp id fun ⟨b, cap, cur, g1, g2⟩ => ⟨b, cap, cur, h1.trans g1, g2⟩⟩
  | eptr o i off ob a ho hb h =>
    intro y hy
    simp only [V.unren, Option.map_eq_some_iff] at hy
    obtain ⟨o', ho', rfl⟩ := hy
    obtain ⟨h1, ob', h2, h3⟩ := m o o' _ ho' ho
    obtain ⟨k1, k2⟩ := AObj.unren_rowOf h2 hb
    refine .eptr o' i off ob' a h3 k1 fun e sz xs hr => ?_
    rw [k2] at hr
    obtain ⟨b, q1, q2⟩ := h e sz xs hr
    exact ⟨b, h1.trans q1, q2⟩
  | mp o r kvs ho hb =>
    intro y hy
    simp only [V.unren, Option.map_eq_some_iff] at hy
    obtain ⟨o', ho', rfl⟩ := hy
    obtain ⟨h1, ob', h2, h3⟩ := m o o' _ ho' ho
    simp only [AObj.unren, Option.some.injEq] at h2
    subst h2
    exact .mp o' r kvs h3 (h1.trans hb)
  | ptr o off b cs ho hb =>
    intro y hy
    simp only [V.unren, Option.map_eq_some_iff] at hy
    obtain ⟨o', ho', rfl⟩ := hy
    obtain ⟨h1, ob', h2, h3⟩ := m o o' _ ho' ho
    simp only [AObj.unren, Option.map_eq_some_iff] at h2
    obtain ⟨ds, _, rfl⟩ := h2
    exact .ptr o' off b ds h3 (h1.trans hb)
  | cptr off b o x vs hc hr => intro y hy; simp only [V.unren, Option.some.injEq] at hy; subst hy; rw [← hfz] at hc hr; exact .cptr off b o x vs hc hr
  | fn g first cap vf vc h1 h2 hf hc ih1 ih2 =>
    intro y hy
    simp only [V.unren] at hy
    cases ha : V.unrenL f first with
    | none => simp [ha] at hy
    | some a =>
      simp only [ha, Option.bind_some, Option.map_eq_some_iff] at hy
      obtain ⟨c, hcc, rfl⟩ := hy
      obtain ⟨l1, g1⟩ := V.unrenL_get f ha
      obtain ⟨l2, g2⟩ := V.unrenL_get f hcc
      refine .fn g a c vf vc (by omega) (by omega) (fun j y v hy hv => ?_) (fun j y v hy hv => ?_)
      · obtain ⟨z, hz, hzy⟩ := g1 j y hy
        exact ih1 j z v hz hv hzy
      · obtain ⟨z, hz, hzy⟩ := g2 j y hy
        exact ih2 j z v hz hv hzy
  | agg cs vs hl h1 hr ih =>
    intro y hy
    simp only [V.unren, Option.map_eq_some_iff] at hy
    obtain ⟨ds, hds, rfl⟩ := hy
    obtain ⟨l1, g1⟩ := V.unrenL_get f hds
    refine .agg ds vs (by omega) h1 (fun j y v hy hv => ?_)
    obtain ⟨z, hz, hzy⟩ := g1 j y hy
    exact ih j z v hz hv hzy
  | tup cs vs hl hr ih =>
    intro y hy
    simp only [V.unren, Option.map_eq_some_iff] at hy
    obtain ⟨ds, hds, rfl⟩ := hy
    obtain ⟨l1, g1⟩ := V.unrenL_get f hds
    refine .tup ds vs (by omega) (fun j y v hy hv => ?_)
    obtain ⟨z, hz, hzy⟩ := g1 j y hy
    exact ih j z v hz hv hzy

mutual
/-- what one may know of a value when nobody will append to it -/
def V.freeze : V → V
  | .nil => .d (.sl [])
  | .emp => .d (.sl [])
  | .own _ xs => .d (.sl xs)
  | .fsl xs => .d (.sl xs)
  | .tup cs => .tup (V.freezeL cs)
  | .agg cs => mkAgg (V.freezeL cs)
  | .any => .any
  | .und => .und
  | .d x => .d x
  | .sl o lo n => .sl o lo n
  | .csl o lo n => .csl o lo n
  | .ptr o off => .ptr o off
  | .eptr o i off => .eptr o i off
  | .cptr x off => .cptr x off
  | .mp o => .mp o
  | .fn f a c => .fn f a c
def V.freezeL : List V → List V
  | [] => []
  | x :: r => V.freeze x :: V.freezeL r
end
theorem V.freezeL_get : ∀ (cs : List V) (j : Nat), (V.freezeL cs)[j]? = (cs[j]?).map V.freeze
  | [], j => by simp [V.freezeL]
  | x :: r, 0 => by simp [V.freezeL]
  | x :: r, j + 1 => by simpa [V.freezeL] using V.freezeL_get r j
theorem V.freezeL_length : ∀ (cs : List V), (V.freezeL cs).length = cs.length
  | [] => rfl
  | x :: r => by simp [V.freezeL, V.freezeL_length r]
theorem RV.freeze {γ : Gh} {S : St} {w : World} {x : V} {v : Value} (h : RV γ S w x v) : RV γ S w x.freeze v := by
  induction h with
  | any v => exact .any v
  | und => exact .und
  | d x v h => exact .d x v h
  | nil => exact .d _ _ .nils
  | emp a c hc => exact .d _ _ (RD.empty a hc)
  | own t e sz f xs v ht hf hd hk hz => exact .d _ _ hd
  | fsl xs a hd => exact .d _ _ hd
  | sl o lo n ob v hv ho hb h => exact .sl o lo n ob v hv ho hb h
  | csl0 o lo a => exact .csl0 o lo a
  | csl o lo n cap a h ih => exact .csl o lo n cap a h
  | ptr o off b cs ho hb => exact .ptr o off b cs ho hb
  | eptr o i off ob a ho hb h => exact .eptr o i off ob a ho hb h
  | cptr off b o x vs hc hr => exact .cptr off b o x vs hc hr
  | mp o r kvs ho hb => exact .mp o r kvs ho hb
  | fn f first cap vf vc h1 h2 hf hc ih1 ih2 => exact .fn f first cap vf vc h1 h2 hf hc
  | agg cs vs hl h1 hr ih =>
    refine mkAgg_ok (by rw [V.freezeL_length]; exact hl) h1 fun j y v hy hv => ?_
    rw [V.freezeL_get, Option.map_eq_some_iff] at hy
    obtain ⟨z, hz, rfl⟩ := hy
    exact ih j z v hz hv
  | tup cs vs hl hr ih =>
    refine .tup _ vs (by rw [V.freezeL_length]; exact hl) fun j y v hy hv => ?_
    rw [V.freezeL_get, Option.map_eq_some_iff] at hy
    obtain ⟨z, hz, rfl⟩ := hy
    exact ih j z v hz hv

theorem refs_mkAgg {cs : List V} (h : V.refsL cs = []) : (mkAgg cs).refs = [] := by
  unfold mkAgg
  split
  · rfl
  · simpa [V.refs] using h
mutual
theorem V.refs_freeze : ∀ (v : V), v.refs = [] → v.freeze.refs = []
  | .any, _ => rfl
  | .und, _ => rfl
  | .d x, _ => rfl
  | .nil, _ => rfl
  | .emp, _ => rfl
  | .own t xs, _ => rfl
  | .fsl xs, _ => rfl
  | .sl o lo n, h => by simp [V.refs] at h
  | .csl o lo n, h => by simp [V.refs] at h
  | .ptr o off, h => by simp [V.refs] at h
  | .eptr o i off, h => by simp [V.refs] at h
  | .mp o, h => by simp [V.refs] at h
  | .cptr x off, _ => rfl
  | .fn g a c, h => by simpa [V.freeze] using h
  | .agg cs, h => by
    simp only [V.refs] at h
    simp only [V.freeze]
    exact refs_mkAgg (V.refsL_freezeL cs h)
  | .tup cs, h => by
    simp only [V.refs] at h
    simp only [V.freeze, V.refs]
    exact V.refsL_freezeL cs h
theorem V.refsL_freezeL : ∀ (l : List V), V.refsL l = [] → V.refsL (V.freezeL l) = []
  | [], _ => rfl
  | x :: r, h => by
    simp only [V.refsL, List.append_eq_nil_iff] at h
    simp only [V.freezeL, V.refsL, V.refs_freeze x h.1, V.refsL_freezeL r h.2, List.append_nil]
end

/-! ### a part of a state, by numbers -/
def posOf : List Nat → Nat → Option Nat
  | [], _ => none
  | i :: r, o => if i = o then some 0 else (posOf r o).map (· + 1)
theorem posOf_some : ∀ {ids : List Nat} {o k : Nat}, posOf ids o = some k → ids[k]? = some o
  | [], _, _, h => by simp [posOf] at h
  | i :: r, o, k, h => by
    simp only [posOf] at h
    by_cases hi : i = o
    · rw [if_pos hi] at h; cases h; simp [hi]
    · rw [if_neg hi, Option.map_eq_some_iff] at h
      obtain ⟨j, hj, rfl⟩ := h
      simpa using posOf_some hj
theorem posOf_nodup : ∀ {ids : List Nat} {o k : Nat}, ids.Nodup → ids[k]? = some o → posOf ids o = some k
  | [], _, _, _, h => by simp at h
  | i :: r, o, 0, hn, h => by simp at h; simp [posOf, h]
  | i :: r, o, k + 1, hn, h => by
    simp at h
    have hmem := List.mem_of_getElem? h
    have hne : i ≠ o := fun e => (List.nodup_cons.1 hn).1 (e ▸ hmem)
    simp only [posOf, if_neg hne]
    rw [posOf_nodup (List.nodup_cons.1 hn).2 h]
    rfl
def focus (f : Nat → Option Nat) (S : St) : List Nat → Option St
  | [] => some []
  | i :: r => (S[i]?).bind fun ob => (ob.unren f).bind fun ob => (focus f S r).map fun T => ob :: T
theorem focus_get {f : Nat → Option Nat} {S : St} : ∀ {ids : List Nat} {T : St}, focus f S ids = some T → T.length = ids.length ∧ ∀ (k : Nat) (o : Nat), ids[k]? = some o → ∃ ob ob', S[o]? = some ob ∧ ob.unren f = some ob' ∧ T[k]? = some ob'
  | [], T, h => by simp [focus] at h; subst h; exact ⟨rfl, fun k o h => by simp at h⟩
  | i :: r, T, h => by
    simp only [focus] at h
    cases hi : S[i]? with
    | none => simp [hi] at h
    | some ob =>
      cases hu : ob.unren f with
      | none => simp [hi, hu] at h
      | some ob' =>
        simp only [hi, hu, Option.bind_some, Option.map_eq_some_iff] at h
        obtain ⟨T', h, rfl⟩ := h
        obtain ⟨h1, h2⟩ := focus_get h
        refine ⟨by simp [h1], fun k o hk => ?_⟩
        cases k with
        | zero => simp at hk; subst hk; exact ⟨ob, ob', hi, hu, rfl⟩
        | succ k => simp at hk; obtain ⟨a, b, c⟩ := h2 k o hk; exact ⟨a, b, by simpa using c⟩

def Gh.part (γ : Gh) (ids : List Nat) : Gh := { mu := fun k => (ids[k]?).bind γ.mu, fz := γ.fz, gl := γ.gl }

theorem RV.part {ids : List Nat} {γ : Gh} {S T : St} {w : World} (hf : focus (posOf ids) S ids = some T) {x : V} {v : Value} (h : RV γ S w x v) {y : V} (hy : x.unren (posOf ids) = some y) : RV (γ.part ids) T w y v :=
  RV.unren (f := posOf ids) (γ := γ) (S := S) (S' := T) (γ' := γ.part ids) rfl (fun o o' ob ho hob => by
    have hp := posOf_some ho
    obtain ⟨a, b, h1, h2, h3⟩ := (focus_get hf).2 o' o hp
    rw [hob] at h1
    cases h1
    exact ⟨by simp [Gh.part, hp], b, h2, h3⟩) h hy

theorem Inv.part {ids : List Nat} {γ : Gh} {S T : St} {w : World} (hI : Inv γ S w) (hn : ids.Nodup) (hf : focus (posOf ids) S ids = some T) : Inv (γ.part ids) T w := by
  obtain ⟨hl, hg⟩ := focus_get hf
  have hid : ∀ k, k < T.length → ∃ o, ids[k]? = some o := fun k hk => ⟨ids[k]'(by omega), by simp⟩
  refine ⟨fun k ob' hk => ?_, fun k k' b h1 h2 h3 h4 => ?_, hI.fzin, fun k b hk hb => ?_, hI.gl⟩
  · obtain ⟨o, ho⟩ := hid k (List.getElem?_eq_some_iff.1 hk).1
    obtain ⟨ob, ob2, h1, h2, h3⟩ := hg k o ho
    rw [hk] at h3
    cases h3
    have hok := hI.obj o ob h1
    have hmu : (γ.part ids).mu k = γ.mu o := by simp [Gh.part, ho]
    cases ob with
    | box cs =>
      simp only [AObj.unren, Option.map_eq_some_iff] at h2
      obtain ⟨ds, hds, rfl⟩ := h2
      obtain ⟨b, vs, e, g1, g2, g3, g4, g5⟩ := hok
      obtain ⟨l1, u1⟩ := V.unrenL_get _ hds
      refine ⟨b, vs, e, hmu.trans g1, g2, by omega, fun i y v hy hv => ?_, g5⟩
      obtain ⟨x, hx, hxy⟩ := u1 i y hy
      exact ⟨(g4 i x v hx hv).1, (g4 i x v hx hv).2.part hf hxy⟩
    | tok e f sz =>
      simp only [AObj.unren, Option.some.injEq] at h2
      subst h2
      intro b hb
      exact hok b (hmu ▸ hb)
    | row e sz xs =>
      simp only [AObj.unren, Option.some.injEq] at h2
      subst h2
      exact ⟨fun hn => hok.1 (hmu ▸ hn), fun b hb => hok.2 b (hmu ▸ hb)⟩
    | fro e sz xs =>
      simp only [AObj.unren, Option.some.injEq] at h2
      subst h2
      exact ⟨fun hn => hok.1 (hmu ▸ hn), fun b hb => hok.2 b (hmu ▸ hb)⟩
    | map kvs =>
      simp only [AObj.unren, Option.some.injEq] at h2
      subst h2
      obtain ⟨r, es, clock, g1, g2⟩ := hok
      exact ⟨r, es, clock, hmu.trans g1, g2⟩
    | dead =>
      simp only [AObj.unren, Option.some.injEq] at h2
      subst h2
      trivial
    | gone =>
      simp only [AObj.unren, Option.some.injEq] at h2
      subst h2
      exact hmu.trans hok
  · obtain ⟨o, ho⟩ := hid k h1
    obtain ⟨o', ho'⟩ := hid k' h2
    obtain ⟨ob, _, g1, _⟩ := hg k o ho
    obtain ⟨ob', _, g1', _⟩ := hg k' o' ho'
    simp only [Gh.part, ho, ho', Option.bind_some] at h3 h4
    have := hI.inj o o' b (List.getElem?_eq_some_iff.1 g1).1 (List.getElem?_eq_some_iff.1 g1').1 h3 h4
    subst this
    have e1 := posOf_nodup hn ho
    have e2 := posOf_nodup hn ho'
    rw [e1] at e2
    exact Option.some.inj e2
  · obtain ⟨o, ho⟩ := hid k hk
    obtain ⟨ob, _, g1, _⟩ := hg k o ho
    simp only [Gh.part, ho, Option.bind_some] at hb
    exact hI.lt o b (List.getElem?_eq_some_iff.1 g1).1 hb

end Go.Wm
