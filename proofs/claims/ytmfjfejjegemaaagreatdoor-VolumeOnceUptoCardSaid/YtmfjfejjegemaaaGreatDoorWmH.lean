/-
  A part of the proof: an abstract run of the program, shown to be what the model does, and what it comes to.
-/
import Derived.Test.YtmfjfejjegemaaaGreatDoorWmG
import Derived.Laws.CopyRow
set_option linter.unusedVariables false
set_option linter.unusedSimpArgs false
set_option linter.unnecessarySimpa false
set_option linter.defProp false
set_option linter.unusedSectionVars false
namespace Go.Wm
open Go
variable [GlobReq]

/-- cells, one by one -/
def RVs (γ : Gh) (S : St) (w : World) (cs : List V) (vs : List Value) : Prop :=
  vs.length = cs.length ∧ ∀ (j : Nat) (y : V) (u : Value), cs[j]? = some y → vs[j]? = some u → u.oneCell' = true ∧ RV γ S w y u

theorem RVs.mono {γ γ' : Gh} {S S' : St} {w w' : World} {cs : List V} {vs : List Value} (h : RVs γ S w cs vs) (he : Ext S.length γ S w γ' S' w') : RVs γ' S' w' cs vs :=
  ⟨h.1, fun j y u hy hu => ⟨(h.2 j y u hy hu).1, (h.2 j y u hy hu).2.mono he⟩⟩

theorem RVs.put {γ : Gh} {S : St} {w : World} {cs ys : List V} {vs us : List Value} (h : RVs γ S w cs vs) (h' : RVs γ S w ys us) {off : Nat} (ho : off + ys.length ≤ cs.length) :
    RVs γ S w (putCells cs off ys) (vs.take off ++ us ++ vs.drop (off + us.length)) := by
  obtain ⟨l1, r1⟩ := h
  obtain ⟨l2, r2⟩ := h'
  refine ⟨by simp [putCells, l1, l2], fun j y u hy hu => ?_⟩
  unfold putCells at hy
  rw [List.append_assoc] at hy hu
  by_cases h1 : j < off
  · rw [List.getElem?_append_left (by simp; omega), List.getElem?_take, if_pos h1] at hy hu
    exact r1 j y u hy hu
  · rw [List.getElem?_append_right (by simp; omega)] at hy hu
    have e1 : (cs.take off).length = off := by simp; omega
    have e2 : (vs.take off).length = off := by simp; omega
    rw [e1] at hy
    rw [e2] at hu
    by_cases h2 : j - off < ys.length
    · rw [List.getElem?_append_left (by omega)] at hy hu
      exact r2 _ y u hy hu
    · rw [List.getElem?_append_right (by omega)] at hy hu
      rw [List.getElem?_drop] at hy hu
      rw [l2] at hu
      exact r1 _ y u hy hu

theorem RVs.of_RD {γ : Gh} {S : St} {w : World} {x : D} {v : Value} (h : RD γ.fz w x v) : RVs γ S w (x.cells.map .d) v.cells.toList := by
  refine ⟨by simp [h.cells_size], fun j y u hy hu => ?_⟩
  simp only [List.getElem?_map, Option.map_eq_some_iff] at hy
  obtain ⟨z, hz, rfl⟩ := hy
  have hr := h.cells_at hz (by simpa using hu)
  exact ⟨hr.oneCell (D.cells_one_of_mem h hz), .d _ _ hr⟩

theorem cells_of_one {v : Value} (h : v.oneCell' = true) : v.cells = #[v] := by
  cases v <;> first | rfl | (simp [Value.oneCell'] at h)

theorem RV.cells {γ : Gh} {S : St} {w : World} {x : V} {v : Value} (h : RV γ S w x v) (hb : x.boxable = true) : RVs γ S w x.cells v.cells.toList := by
  have one : ∀ {x : V} {v : Value}, RV γ S w x v → v.oneCell' = true → v.cells = #[v] → x.cells = [x] → RVs γ S w x.cells v.cells.toList := by
    intro x v h h1 h2 h3
    rw [h2, h3]
    refine ⟨rfl, fun j y u hy hu => ?_⟩
    cases j with
    | zero => simp at hy hu; subst hy; subst hu; exact ⟨h1, h⟩
    | succ j => simp at hy
  cases h with
  | any => simp [V.boxable] at hb
  | und => simp [V.boxable] at hb
  | csl0 => simp [V.boxable] at hb
  | csl => simp [V.boxable] at hb
  | tup => simp [V.boxable] at hb
  | d x v h =>
    by_cases h1 : x.one = true
    · obtain ⟨e1, e2⟩ := h.cells_one h1
      refine one (.d _ _ h) (h.oneCell h1) e2 ?_
      cases x <;> first | rfl | (simp [D.one] at h1)
    · have := RVs.of_RD (S := S) h
      cases x <;> first | (simp [D.one] at h1; done) | exact this
  | nil => exact one .nil rfl rfl rfl
  | emp a c hc => exact one (.emp a c hc) rfl rfl rfl
  | own t e sz f xs v ht hf hd hk hz =>
    have h1 := hd.oneCell rfl
    obtain ⟨_, e2⟩ := hd.cells_one rfl
    exact one (.own t e sz f xs v ht hf hd hk hz) h1 e2 rfl
  | fsl xs a hd => exact one (.fsl xs a hd) rfl rfl rfl
  | sl o lo n ob v h1 ho hb2 hh => exact one (.sl o lo n ob v h1 ho hb2 hh) h1.1 (cells_of_one h1.1) rfl
  | eptr o i off ob a ho hb2 hh => exact one (.eptr o i off ob a ho hb2 hh) rfl rfl rfl
  | mp o r kvs ho hb2 => exact one (.mp o r kvs ho hb2) rfl rfl rfl
  | ptr o off b cs ho hbb => exact one (.ptr o off b cs ho hbb) rfl rfl rfl
  | cptr off b o x vs hc hr => exact one (.cptr off b o x vs hc hr) rfl rfl rfl
  | fn f first cap vf vc h1 h2 hf hc => exact one (.fn f first cap vf vc h1 h2 hf hc) rfl rfl rfl
  | agg cs vs hl h1 hr =>
    refine ⟨by simpa [V.cells, Value.cells] using hl, fun j y u hy hu => ?_⟩
    have hu' : vs[j]? = some u := by simpa [Value.cells] using hu
    exact ⟨h1 j u hu', hr j y u hy hu'⟩

/-! ### writing a piece of an array -/
theorem foldl_set_get (off : Nat) : ∀ (l : List Value) (s : Nat) (cs : Array Value) (k : Nat), off + s + l.length ≤ cs.size →
    ((l.zipIdx s).foldl (fun (acc : Array Value) (p : Value × Nat) => acc.setIfInBounds (off + p.2) p.1) cs)[k]? =
      if off + s ≤ k ∧ k < off + s + l.length then l[k - (off + s)]? else cs[k]?
  | [], s, cs, k, _ => by simp; omega
  | v :: l, s, cs, k, h => by
    simp only [List.length_cons] at h
    rw [List.zipIdx_cons, List.foldl_cons, foldl_set_get off l (s + 1) _ k (by simp; omega)]
    by_cases h1 : k = off + s
    · subst h1
      rw [if_neg (by omega), if_pos (by simp)]
      have hlt : off + s < cs.size := by omega
      simp [hlt]
    · by_cases h2 : off + (s + 1) ≤ k ∧ k < off + (s + 1) + l.length
      · rw [if_pos h2, if_pos (by simp; omega)]
        have : k - (off + s) = (k - (off + (s + 1))) + 1 := by omega
        rw [this, List.getElem?_cons_succ]
      · rw [if_neg h2, if_neg (by simp; omega), Array.getElem?_setIfInBounds_ne (by omega)]

theorem foldl_set_list (off : Nat) (vs cs : Array Value) (h : off + vs.size ≤ cs.size) :
    (vs.zipIdx.foldl (fun cs (c, j) => cs.setIfInBounds (off + j) c) cs).toList = cs.toList.take off ++ vs.toList ++ cs.toList.drop (off + vs.size) := by
  have e : vs.zipIdx.foldl (fun (acc : Array Value) (p : Value × Nat) => acc.setIfInBounds (off + p.2) p.1) cs =
      (vs.toList.zipIdx 0).foldl (fun (acc : Array Value) (p : Value × Nat) => acc.setIfInBounds (off + p.2) p.1) cs := by
    rw [← Array.foldl_toList, Array.toList_zipIdx]
  have e' : (vs.zipIdx.foldl (fun cs (c, j) => cs.setIfInBounds (off + j) c) cs) = vs.zipIdx.foldl (fun (acc : Array Value) (p : Value × Nat) => acc.setIfInBounds (off + p.2) p.1) cs := rfl
  rw [e', e]
  apply List.ext_getElem?
  intro k
  have := foldl_set_get off vs.toList 0 cs k (by simpa using h)
  rw [Array.getElem?_toList, this]
  simp only [Nat.add_zero, Array.length_toList]
  rw [List.append_assoc]
  by_cases h1 : k < off
  · rw [if_neg (by omega), List.getElem?_append_left (by simp; omega), List.getElem?_take, if_pos h1, Array.getElem?_toList]
  · have e1 : (cs.toList.take off).length = off := by simp; omega
    rw [List.getElem?_append_right (by omega), e1]
    by_cases h2 : k < off + vs.size
    · rw [if_pos ⟨by omega, h2⟩, List.getElem?_append_left (by simp; omega)]
    · rw [if_neg (by omega), List.getElem?_append_right (by simp; omega), List.getElem?_drop, Array.getElem?_toList]
      congr 1
      simp
      omega

theorem fillV_ok {γ : Gh} {S : St} {w : World} {fs : List (Nat × Nat × Nat)} {place : Nat → Option (Nat × Nat)} (hp : ∀ i r, fs[i]? = some r → place i = some (r.1, r.2.2)) :
    ∀ (parts : List (Nat × V)) (ps : List (Nat × Value)) (cs out : List V) (vs : Array Value), fillV fs parts cs = some out → ps.map (·.1) = parts.map (·.1) →
      (∀ (j : Nat) (x : Nat × V) (u : Nat × Value), parts[j]? = some x → ps[j]? = some u → RV γ S w x.2 u.2) → RVs γ S w cs vs.toList →
      ∃ r, Instr.fill place vs ps = some r ∧ RVs γ S w out r.toList
  | [], ps, cs, out, vs, h, hm, hr, hv => by
    simp only [fillV] at h
    cases h
    cases ps with
    | nil => exact ⟨vs, rfl, hv⟩
    | cons p ps => simp at hm
  | (i, x) :: parts, ps, cs, out, vs, h, hm, hr, hv => by
    cases ps with
    | nil => simp at hm
    | cons p ps =>
      obtain ⟨i', u⟩ := p
      simp only [List.map_cons, List.cons.injEq] at hm
      obtain ⟨rfl, hm⟩ := hm
      simp only [fillV] at h
      cases hf : fs[i']? with
      | none => simp [hf] at h
      | some r =>
        simp only [hf, Option.bind_some] at h
        split at h <;> first | (cases h; done) | skip
        split at h <;> first | (cases h; done) | skip
        split at h <;> first | (cases h; done) | skip
        rename_i hb hl hle
        have hx := (hr 0 (i', x) (i', u) rfl rfl).cells hb
        have hsz : u.cells.size = r.2.2 := by have := hx.1; simp at this; omega
        have hcs : vs.size = cs.length := by have := hv.1; simpa using this
        have hput := hv.put hx (off := r.1) (by show r.1 + x.cells.length ≤ cs.length; omega)
        rw [Array.length_toList] at hput
        simp only at hput
        rw [← foldl_set_list r.1 u.cells vs (by omega)] at hput
        obtain ⟨out', h1, h2⟩ := fillV_ok hp parts ps _ out _ h hm (fun j x u hx hu => hr (j + 1) x u (by simpa using hx) (by simpa using hu)) hput
        refine ⟨out', ?_, h2⟩
        have hc : ¬ (u.cells.size ≠ r.2.2 ∨ r.1 + u.cells.size > vs.size) := by omega
        unfold Instr.fill
        rw [hp i' r hf]
        simp only [ne_eq, Bool.or_eq_true, decide_eq_true_eq]
        rw [if_neg hc]
        exact h1

section
variable {P : Program} {ty : Nat → Option TI} (hty : TyOk P ty) {γ : Gh} {S : St} {w : World}

theorem RVs.agg {cs : List V} {vs : Array Value} (h : RVs γ S w cs vs.toList) : RV γ S w (mkAgg cs) (.agg vs) := by
  have hl : vs.size = cs.length := by simpa using h.1
  refine mkAgg_ok hl (fun j v hv => ?_) (fun j y v hy hv => (h.2 j y v hy (by simpa using hv)).2)
  have hj := (Array.getElem?_eq_some_iff.1 hv).1
  exact (h.2 j cs[j] v (by simp [hl ▸ hj]) (by simpa using hv)).1

include hty
theorem buildV_ok {E : Env} (hE : E.ty = ty) {t : Nat} {parts : List (Nat × V)} {ps : Array (Nat × Value)} {y : V} (h : buildV E t parts = some y) (hm : ps.toList.map (·.1) = parts.map (·.1))
    (hr : ∀ (j : Nat) (x : Nat × V) (u : Nat × Value), parts[j]? = some x → ps.toList[j]? = some u → RV γ S w x.2 u.2) :
    ∃ u, (Instr.build t ps).run P w = .ok u w ∧ RV γ S w y u := by
  subst hE
  unfold buildV at h
  cases ht : E.ty t with
  | none => simp [ht] at h
  | some i =>
    simp only [ht, Option.bind_some] at h
    obtain ⟨info, z, hi, hs, hb, hz, hval, hzs⟩ := hty.info ht
    have hzero : RVs γ S w i.zero z.cells.toList := RV.of_areVals γ S w _ _ hval
    split at h <;> first | (cases h; done) | skip
    rotate_left
    · rename_i n e s hd
      simp only [Option.map_eq_some_iff] at h
      obtain ⟨out, h, rfl⟩ := h
      obtain ⟨hP, hes⟩ := hty.arrayInfo ht hd
      obtain ⟨einfo, he1, he2⟩ := hes
      obtain ⟨r, hr1, hr2⟩ := fillV_ok (γ := γ) (S := S) (w := w) (fs := arrPlaces n e s) (place := fun x => some (x * s, s)) (fun j r hj => by
        have hjl : j < n := by
          have := (List.getElem?_eq_some_iff.1 hj).1
          simpa [arrPlaces] using this
        simp [arrPlaces, hjl] at hj
        subst hj
        rfl) parts ps.toList _ _ z.cells h hm hr hzero
      have hbuilt : P.built t ps.toList = some r := by
        unfold Program.built
        rw [hi, hP]
        simp only [hz, he1, he2]
        exact hr1
      exact ⟨_, run_build w t ps r hbuilt, hr2.agg⟩
    rename_i fs hd
    simp only [Option.map_eq_some_iff] at h
    obtain ⟨out, h, rfl⟩ := h
    obtain ⟨fields, hP, hfs⟩ := hty.struct ht hd
    have hmap : ∀ (l : List Field) (rs : List (Nat × Nat × Nat)), l.map (fun f => (f.offset, f.type, (P.info? f.type).map (·.size))) = rs.map (fun r => (r.1, r.2.1, some r.2.2)) →
        l.mapM (fun f => (P.info? f.type).map fun i => (f.offset, i.size)) = some (rs.map fun r => (r.1, r.2.2)) := by
      intro l
      induction l with
      | nil => intro rs h; cases rs <;> simp at h ⊢
      | cons f l ih =>
        intro rs h
        cases rs with
        | nil => simp at h
        | cons r rs =>
          simp only [List.map_cons, List.cons.injEq, Prod.mk.injEq] at h
          obtain ⟨⟨h1, h2, h3⟩, h4⟩ := h
          simp only [Option.map_eq_some_iff] at h3
          obtain ⟨inf, h5, h6⟩ := h3
          simp [List.mapM_cons, h5, ih rs h4, h1, h6]
    obtain ⟨r, hr1, hr2⟩ := fillV_ok (γ := γ) (S := S) (w := w) (fs := fs) (place := fun x => (fs.map fun r => (r.1, r.2.2)).toArray[x]?) (fun j r hj => by simp [hj]) parts ps.toList _ _ z.cells h hm hr hzero
    have hbuilt : P.built t ps.toList = some r := by
      unfold Program.built
      rw [hi, hP]
      simp only [hz, hmap _ _ hfs]
      exact hr1
    exact ⟨_, run_build w t ps r hbuilt, hr2.agg⟩

theorem alloc_ok (hI : Inv γ S w) {o : Nat} (hdead : S[o]? = some .dead) (hnone : γ.mu o = none) {t : Nat} {i : TI} (ht : ty t = some i) :
    ∃ u γ' w', (Instr.alloc t true (.tuple #[])).run P w = .ok u w' ∧ Inv γ' (S.set o (.box i.zero)) w' ∧ Ext S.length γ S w γ' (S.set o (.box i.zero)) w' ∧
      RV γ' (S.set o (.box i.zero)) w' (.ptr o 0) u := by
  obtain ⟨info, z, hi, hs, hb, hz, hval, hzs⟩ := hty.info ht
  have hzero : RVs γ S w i.zero z.cells.toList := RV.of_areVals γ S w _ _ hval
  obtain ⟨h1, h2, h3⟩ := new_box hI hdead hnone i.zero z.cells t (by simpa using hzero.1) (fun j x v hx hv => hzero.2 j x v hx (by simpa using hv))
  refine ⟨_, _, _, ?_, h1, h2, h3⟩
  simp [Instr.alloc, zeroValue, typeInfo, hi, hz, newVar, newRow]

omit hty
theorem box_ok (hI : Inv γ S w) {o : Nat} (hdead : S[o]? = some .dead) (hnone : γ.mu o = none) {t : Nat} {x : V} {v : Value} (hx : RV γ S w x v) (hb : x.boxable = true) :
    ∃ u γ' w', (Instr.box t v).run P w = .ok u w' ∧ Inv γ' (S.set o (.box x.cells)) w' ∧ Ext S.length γ S w γ' (S.set o (.box x.cells)) w' ∧
      RV γ' (S.set o (.box x.cells)) w' (.ptr o 0) u := by
  have hc := hx.cells hb
  obtain ⟨h1, h2, h3⟩ := new_box hI hdead hnone x.cells v.cells t (by simpa using hc.1) (fun j x v hx hv => hc.2 j x v hx (by simpa using hv))
  refine ⟨_, _, _, ?_, h1, h2, h3⟩
  simp [Instr.box, newVar, newRow]

theorem setRow_get (w : World) (g : Nat) (old cs : Array Value) (t : TypeId) (fr : Nat × Nat) (hg : w.heap[g]? = some (.cells old t fr)) : (w.setRow g cs).heap[g]? = some (.cells cs t fr) :=
  setRow_heap w g old cs t fr hg

omit hty
theorem putCells_length {α : Type} {cs vs : List α} {off : Nat} (h : off + vs.length ≤ cs.length) : (putCells cs off vs).length = cs.length := by
  simp [putCells]; omega
theorem putCells_get {α : Type} {cs vs : List α} {off j : Nat} (h : off + vs.length ≤ cs.length) : (putCells cs off vs)[j]? = if off ≤ j ∧ j < off + vs.length then vs[j - off]? else cs[j]? := by
  unfold putCells
  have e1 : (cs.take off).length = off := by simp; omega
  rw [List.append_assoc]
  by_cases h1 : j < off
  · rw [if_neg (by omega), List.getElem?_append_left (by omega), List.getElem?_take, if_pos h1]
  · rw [List.getElem?_append_right (by omega), e1]
    by_cases h2 : j < off + vs.length
    · rw [if_pos ⟨by omega, h2⟩, List.getElem?_append_left (by omega)]
    · rw [if_neg (by omega), List.getElem?_append_right (by omega), List.getElem?_drop]
      congr 1; omega
theorem putCells_mem {α : Type} {cs vs : List α} {off : Nat} {x : α} (h : x ∈ putCells cs off vs) : x ∈ cs ∨ x ∈ vs := by
  unfold putCells at h
  simp only [List.mem_append] at h
  rcases h with (h | h) | h
  · exact .inl (List.mem_of_mem_take h)
  · exact .inr h
  · exact .inl (List.mem_of_mem_drop h)
theorem D.put_cells {x : D} {off : Nat} {ds : List D} (h : off + ds.length ≤ x.cells.length) (hp : 0 < ds.length) (hone : ∀ y ∈ ds, y.one = true) : (x.put off ds).cells = putCells x.cells off ds := by
  by_cases hx : x.one = true
  · have e : x.cells = [x] := by cases x <;> first | rfl | (simp [D.one] at hx)
    rw [e] at h ⊢
    simp only [List.length_cons, List.length_nil] at h
    match ds, h, hp, hone with
    | [y], h, _, hone =>
      obtain rfl : off = 0 := by simp at h; omega
      have hy := hone y (by simp)
      have e2 : x.put 0 [y] = y := by cases x <;> first | rfl | (simp [D.one] at hx)
      rw [e2]
      cases y <;> first | rfl | (simp [D.one] at hy)
    | y :: z :: r, h, _, _ => simp at h; omega
  · cases x <;> first | (simp [D.one] at hx; done) | rfl

theorem row_write (hI : Inv γ S w) {o e sz b : Nat} {xs xs' : List D} {cur cur' : Array Value} (ho : S[o]? = some (.row e sz xs)) (hb : γ.mu o = some b) (hcur : w.heap[b]? = some (.cells cur e (0, 0)))
    (hs : cur'.size = cur.size) (hl : xs.length ≤ xs'.length) (hrow : RowOk γ.fz w sz xs' cur') : Inv γ (S.set o (.row e sz xs')) (w.setRow b cur') ∧ Ext S.length γ S w γ (S.set o (.row e sz xs')) (w.setRow b cur') := by
  have hok := hI.obj o _ ho
  have hnf : ∀ off, ¬ γ.fz b off := (hok.2 b hb).2
  have hk : Keep γ w γ (w.setRow b cur') o (.row e sz xs) (some (.row e sz xs')) := by
    refine .inr ⟨rfl, fun b' hb' => ?_, xs', hl, .inl rfl⟩
    rw [hb] at hb'
    cases hb'
    intro c hc
    rw [hcur] at hc
    cases hc
    exact ⟨cur', setRow_heap w b cur _ e _ hcur, hs⟩
  have he := Ext.setObj (γ' := γ) hI ho hb (fun _ _ => rfl) (by simp) (fun c hc => setRow_other w b c _ hc) (fun _ _ h => h) (fun _ _ h => .inl h) (fun off' hf => absurd hf (hnf off')) hk rfl rfl rfl
  refine ⟨Inv.setObj (γ' := γ) hI ho hb (fun _ _ => rfl) (by simp) (fun c hc => setRow_other w b c _ hc) (fun _ _ h => .inl h) he ?_, he⟩
  refine ⟨fun hn => (by rw [hb] at hn; cases hn), fun b' hb' => ?_⟩
  rw [hb] at hb'
  cases hb'
  exact ⟨⟨cur', setRow_heap w b cur _ e _ hcur, hrow.mono he.fz he.cell⟩, hnf⟩

include hty
theorem stV_ok (hI : Inv γ S w) {E : Env} (hE : E.ty = ty) {t : Nat} {x y : V} {v u : Value} {S' : Nat × AObj} (h : stV E t S x y = some S') (hx : RV γ S w x v) (hy : RV γ S w y u) :
    ∃ w', (Instr.storeAt t v u).run P w = .ok () w' ∧ Inv γ (S.set S'.1 S'.2) w' ∧ Ext S.length γ S w γ (S.set S'.1 S'.2) w' := by
  subst hE
  unfold stV at h
  cases ht : E.ty t with
  | none => simp [ht] at h
  | some i =>
    simp only [ht, Option.bind_some] at h
    split at h <;> first | (cases h; done) | skip
    rotate_left
    · rename_i o k off
      split at h <;> first | (cases h; done) | skip
      rename_i e sz xs ho
      cases hd : asD y with
      | none => simp [hd] at h
      | some d =>
        cases hk : xs[k]? with
        | none => simp [hd, hk] at h
        | some x =>
          simp only [hd, hk, Option.bind_some] at h
          split at h <;> first | (cases h; done) | skip
          split at h <;> first | (cases h; done) | skip
          split at h <;> first | (cases h; done) | skip
          rename_i hl hle hpos
          cases h
          have hrow : rowAt S o = some (e, sz, xs) := by simp [rowAt, ho, AObj.rowOf]
          obtain ⟨b, hb, rfl⟩ := hx.eptr_row hrow
          obtain ⟨cur, hcur, hr1, hr2, hr3⟩ := row_cells hI ho rfl hb
          have hrd := asD_ok γ S w _ _ _ hd hy
          have hsz := hrd.cells_size
          have hs := hty.size ht w
          have hul : u.cells.size = i.size := by omega
          have hxm : x ∈ xs := List.mem_of_getElem? hk
          have hxl := (hr1 x hxm).1
          have hkl := (List.getElem?_eq_some_iff.1 hk).1
          have hone : ∀ y ∈ d.cells, y.one = true := fun y hy => by
            obtain ⟨j, hj⟩ := List.getElem?_of_mem hy
            exact D.cells_one_of_mem hrd hj
          have hvone : ∀ v ∈ u.cells.toList, v.oneCell' = true := fun v hv => by
            obtain ⟨j, hj⟩ := List.getElem?_of_mem hv
            have hjl : j < d.cells.length := by
              have := (List.getElem?_eq_some_iff.1 hj).1
              simp at this; omega
            have hdj : d.cells[j]? = some d.cells[j] := by simp [hjl]
            exact (hrd.cells_at hdj (by simpa using hj)).oneCell (hone _ (List.getElem_mem _))
          have hsp : k * sz + off + u.cells.toList.length ≤ cur.size := by
            have := idx_lt (sz := sz) (n := xs.length) (i := k) (j := sz - 1) hkl (by omega)
            simp; omega
          have hst := run_storeCells_at P b (k * sz + off) e u.cells.toList 0 cur w hcur (by simpa using hsp) hvone
          simp only [Nat.add_zero] at hst
          have hpc := D.put_cells (x := x) (off := off) (ds := d.cells) (by omega) (by omega) hone
          have hrowok : RowOk γ.fz w sz (xs.set k (x.put off d.cells)) (putCells cur.toList (k * sz + off) u.cells.toList).toArray := by
            refine ⟨fun z hz => ?_, ?_, fun p q z y hz hy => ?_⟩
            · rcases List.mem_or_eq_of_mem_set hz with hz | rfl
              · exact hr1 z hz
              · rw [hpc]
                refine ⟨by rw [putCells_length (by omega)]; exact hxl, fun y hy => ?_⟩
                rcases putCells_mem hy with hy | hy
                · exact (hr1 x hxm).2 y hy
                · exact hone y hy
            · rw [List.length_set, List.size_toArray, putCells_length (by simpa using hsp)]
              simpa using hr2
            · rw [List.getElem?_toArray, putCells_get (by simpa using hsp)]
              rw [List.getElem?_set' _ _ _ _ hkl] at hz
              by_cases hkp : k = p
              · subst hkp
                simp only [if_true, Option.some.injEq] at hz
                subst hz
                rw [hpc, putCells_get (by omega)] at hy
                have hjl : q < sz := by
                  split at hy
                  · omega
                  · have := (List.getElem?_eq_some_iff.1 hy).1; omega
                by_cases hq : off ≤ q ∧ q < off + d.cells.length
                · rw [if_pos hq] at hy
                  rw [if_pos (by simp; omega)]
                  have e1 : k * sz + q - (k * sz + off) = q - off := by omega
                  rw [e1]
                  have hlt : q - off < u.cells.size := by omega
                  exact ⟨u.cells[q - off], by simp [hlt], hrd.cells_at hy (by simp [hlt])⟩
                · rw [if_neg hq] at hy
                  rw [if_neg (by simp; omega)]
                  simpa using hr3 k q x y hk hy
              · rw [if_neg hkp] at hz
                have hzl := (hr1 z (List.mem_of_getElem? hz)).1
                have hql : q < sz := by have := (List.getElem?_eq_some_iff.1 hy).1; omega
                rw [if_neg ?_]
                · simpa using hr3 p q z y hz hy
                · rintro ⟨h1, h2⟩
                  simp only [Array.length_toList] at h2
                  rcases Nat.lt_or_gt_of_ne hkp with hlt | hlt
                  · have : (k + 1) * sz ≤ p * sz := Nat.mul_le_mul_right _ hlt
                    rw [Nat.add_mul, Nat.one_mul] at this
                    omega
                  · have : (p + 1) * sz ≤ k * sz := Nat.mul_le_mul_right _ hlt
                    rw [Nat.add_mul, Nat.one_mul] at this
                    omega
          obtain ⟨g1, g2⟩ := row_write hI ho hb hcur (cur' := (putCells cur.toList (k * sz + off) u.cells.toList).toArray) (by rw [List.size_toArray, putCells_length (by simpa using hsp)]; simp) (by simp) hrowok
          refine ⟨_, ?_, g1, g2⟩
          simp [Instr.storeAt, Instr.sureAddr, storeVar, hs, hul, hst, putCells]
    rename_i o off
    split at h <;> first | (cases h; done) | skip
    rename_i cs ho
    split at h <;> first | (cases h; done) | skip
    split at h <;> first | (cases h; done) | skip
    split at h <;> first | (cases h; done) | skip
    rename_i hl hle hb
    cases h
    cases hx with
    | ptr _ _ b cs' ho' hmu =>
      obtain ⟨vs, e, h2, h3, h4, h5, h6⟩ := box_cells ho hI hmu
      have hc := hy.cells hb
      have hs := hty.size ht w
      have hul : u.cells.size = i.size := by have := hc.1; simp at this; omega
      have hone : ∀ v ∈ u.cells.toList, v.oneCell' = true := fun v hv => by
        obtain ⟨j, hj⟩ := List.getElem?_of_mem hv
        have hjl : j < y.cells.length := by
          have := (List.getElem?_eq_some_iff.1 hj).1
          have := hc.1; omega
        exact (hc.2 j y.cells[j] v (by simp [hjl]) hj).1
      have hst := run_storeCells_at P b off e u.cells.toList 0 vs w h2 (by simp; omega) hone
      simp only [Nat.add_zero] at hst
      have hcells : RVs γ S w cs vs.toList := ⟨by simpa using h3, fun j y u hy hu => h5 j y u hy (by simpa using hu)⟩
      have hput := hcells.put hc (off := off) (by omega)
      have hk : Keep γ w γ (w.setRow b (vs.toList.take off ++ u.cells.toList ++ vs.toList.drop (off + u.cells.toList.length)).toArray) o (.box cs) (some (.box (putCells cs off y.cells))) := ⟨rfl, _, rfl⟩
      have he := Ext.setObj (γ' := γ) hI ho hmu (fun _ _ => rfl) (by simp) (fun c hc => setRow_other w b c _ hc) (fun _ _ h => h) (fun _ _ h => .inl h) (fun off' hf => absurd hf (h6 off')) hk rfl rfl rfl
      refine ⟨_, ?_, Inv.setObj (γ' := γ) hI ho hmu (fun _ _ => rfl) (by simp) (fun c hc => setRow_other w b c _ hc) (fun _ _ h => .inl h) he ?_, he⟩
      · simp [Instr.storeAt, Instr.sureAddr, storeVar, hs, hul, hst]
      · refine ⟨b, _, e, hmu, setRow_heap w b vs _ e _ h2, by simpa using hput.1, fun j y u hy hu => ?_, h6⟩
        have := hput.mono he
        exact this.2 j y u hy (by simpa using hu)
end
end Go.Wm
