/-
  A part of the proof: an abstract run of the program, shown to be what the model does, and what it comes to.
-/
import Derived.Test.YtfopbbeieegfcaaVmF
import Derived.Laws.CopyRow
set_option linter.unusedVariables false
set_option linter.unusedSimpArgs false
set_option linter.unusedSectionVars false
set_option linter.unnecessarySimpa false
namespace Go.Vm
open Go

/-- cells, one by one -/
def RVs (γ : Gh) (S : St) (w : World) (cs : List V) (vs : List Value) : Prop :=
  vs.length = cs.length ∧ ∀ (j : Nat) (y : V) (u : Value), cs[j]? = some y → vs[j]? = some u → u.oneCell' = true ∧ RV γ S w y u

theorem RVs.mono {γ γ' : Gh} {S S' : St} {w w' : World} {cs : List V} {vs : List Value} (h : RVs γ S w cs vs) (he : Ext S.length γ S w γ' S' w') : RVs γ' S' w' cs vs :=
  ⟨h.1, fun j y u hy hu => ⟨(h.2 j y u hy hu).1, (h.2 j y u hy hu).2.mono he⟩⟩

theorem RVs.put {γ : Gh} {S : St} {w : World} {cs ys : List V} {vs us : List Value} (h : RVs γ S w cs vs) (h' : RVs γ S w ys us) {off : Nat} (ho : off + ys.length ≤ cs.length) :
    RVs γ S w (putCells cs off ys) (vs.take off ++ us ++ vs.drop (off + us.length)) := by
  obtain ⟨l1, r1⟩ := h
  obtain ⟨l2, r2⟩ := h'
  refine ⟨by simp [putCells, l1, l2], fun j y u hy hu => ?_⟩
  unfold putCells at hy
  rw [List.append_assoc] at hy hu
  by_cases h1 : j < off
  · rw [List.getElem?_append_left (by simp; omega), List.getElem?_take, if_pos h1] at hy hu
    exact r1 j y u hy hu
  · rw [List.getElem?_append_right (by simp; omega)] at hy hu
    have e1 : (cs.take off).length = off := by simp; omega
    have e2 : (vs.take off).length = off := by simp; omega
    rw [e1] at hy
    rw [e2] at hu
    by_cases h2 : j - off < ys.length
    · rw [List.getElem?_append_left (by omega)] at hy hu
      exact r2 _ y u hy hu
    · rw [List.getElem?_append_right (by omega)] at hy hu
      rw [List.getElem?_drop] at hy hu
      rw [l2] at hu
      exact r1 _ y u hy hu

theorem RVs.of_RD {γ : Gh} {S : St} {w : World} {x : D} {v : Value} (h : RD γ.fz w x v) : RVs γ S w (x.cells.map .d) v.cells.toList := by
  refine ⟨by simp [h.cells_size], fun j y u hy hu => ?_⟩
  simp only [List.getElem?_map, Option.map_eq_some_iff] at hy
  obtain ⟨z, hz, rfl⟩ := hy
  have hr := h.cells_at hz (by simpa using hu)
  exact ⟨hr.oneCell (D.cells_one_of_mem h hz), .d _ _ hr⟩

theorem RV.cells {γ : Gh} {S : St} {w : World} {x : V} {v : Value} (h : RV γ S w x v) (hb : x.boxable = true) : RVs γ S w x.cells v.cells.toList := by
  have one : ∀ {x : V} {v : Value}, RV γ S w x v → v.oneCell' = true → v.cells = #[v] → x.cells = [x] → RVs γ S w x.cells v.cells.toList := by
    intro x v h h1 h2 h3
    rw [h2, h3]
    refine ⟨rfl, fun j y u hy hu => ?_⟩
    cases j with
    | zero => simp at hy hu; subst hy; subst hu; exact ⟨h1, h⟩
    | succ j => simp at hy
  cases h with
  | any => simp [V.boxable] at hb
  | tup => simp [V.boxable] at hb
  | d x v h =>
    by_cases h1 : x.one = true
    · obtain ⟨e1, e2⟩ := h.cells_one h1
      refine one (.d _ _ h) (h.oneCell h1) e2 ?_
      cases x <;> first | rfl | (simp [D.one] at h1)
    · have := RVs.of_RD (S := S) h
      cases x <;> first | (simp [D.one] at h1; done) | exact this
  | own t nn e sz f xs v ht hf hd hk =>
    have h1 := hd.oneCell rfl
    obtain ⟨_, e2⟩ := hd.cells_one rfl
    exact one (.own t nn e sz f xs v ht hf hd hk) h1 e2 rfl
  | fsl nn sz xs a hd => exact one (.fsl nn sz xs a hd) rfl rfl rfl
  | ptr o off b cs ho hbb => exact one (.ptr o off b cs ho hbb) rfl rfl rfl
  | cptr sz off b o x vs hsz hc hr => exact one (.cptr sz off b o x vs hsz hc hr) rfl rfl rfl
  | fn f first cap vf vc h1 h2 hf hc => exact one (.fn f first cap vf vc h1 h2 hf hc) rfl rfl rfl
  | agg cs vs hl h1 hr =>
    refine ⟨by simpa [V.cells, Value.cells] using hl, fun j y u hy hu => ?_⟩
    have hu' : vs[j]? = some u := by simpa [Value.cells] using hu
    exact ⟨h1 j u hu', hr j y u hy hu'⟩

/-! ### writing a piece of an array -/
theorem foldl_set_get (off : Nat) : ∀ (l : List Value) (s : Nat) (cs : Array Value) (k : Nat), off + s + l.length ≤ cs.size →
    ((l.zipIdx s).foldl (fun (acc : Array Value) (p : Value × Nat) => acc.setIfInBounds (off + p.2) p.1) cs)[k]? =
      if off + s ≤ k ∧ k < off + s + l.length then l[k - (off + s)]? else cs[k]?
  | [], s, cs, k, _ => by simp; omega
  | v :: l, s, cs, k, h => by
    simp only [List.length_cons] at h
    rw [List.zipIdx_cons, List.foldl_cons, foldl_set_get off l (s + 1) _ k (by simp; omega)]
    by_cases h1 : k = off + s
    · subst h1
      rw [if_neg (by omega), if_pos (by simp)]
      have hlt : off + s < cs.size := by omega
      simp [hlt]
    · by_cases h2 : off + (s + 1) ≤ k ∧ k < off + (s + 1) + l.length
      · rw [if_pos h2, if_pos (by simp; omega)]
        have : k - (off + s) = (k - (off + (s + 1))) + 1 := by omega
        rw [this, List.getElem?_cons_succ]
      · rw [if_neg h2, if_neg (by simp; omega), Array.getElem?_setIfInBounds_ne (by omega)]

theorem foldl_set_list (off : Nat) (vs cs : Array Value) (h : off + vs.size ≤ cs.size) :
    (vs.zipIdx.foldl (fun cs (c, j) => cs.setIfInBounds (off + j) c) cs).toList = cs.toList.take off ++ vs.toList ++ cs.toList.drop (off + vs.size) := by
  have e : vs.zipIdx.foldl (fun (acc : Array Value) (p : Value × Nat) => acc.setIfInBounds (off + p.2) p.1) cs =
      (vs.toList.zipIdx 0).foldl (fun (acc : Array Value) (p : Value × Nat) => acc.setIfInBounds (off + p.2) p.1) cs := by
    rw [← Array.foldl_toList, Array.toList_zipIdx]
  have e' : (vs.zipIdx.foldl (fun cs (c, j) => cs.setIfInBounds (off + j) c) cs) = vs.zipIdx.foldl (fun (acc : Array Value) (p : Value × Nat) => acc.setIfInBounds (off + p.2) p.1) cs := rfl
  rw [e', e]
  apply List.ext_getElem?
  intro k
  have := foldl_set_get off vs.toList 0 cs k (by simpa using h)
  rw [Array.getElem?_toList, this]
  simp only [Nat.add_zero, Array.length_toList]
  rw [List.append_assoc]
  by_cases h1 : k < off
  · rw [if_neg (by omega), List.getElem?_append_left (by simp; omega), List.getElem?_take, if_pos h1, Array.getElem?_toList]
  · have e1 : (cs.toList.take off).length = off := by simp; omega
    rw [List.getElem?_append_right (by omega), e1]
    by_cases h2 : k < off + vs.size
    · rw [if_pos ⟨by omega, h2⟩, List.getElem?_append_left (by simp; omega)]
    · rw [if_neg (by omega), List.getElem?_append_right (by simp; omega), List.getElem?_drop, Array.getElem?_toList]
      congr 1
      simp
      omega

theorem fillV_ok {γ : Gh} {S : St} {w : World} {fs : List (Nat × Nat × Nat)} {place : Nat → Option (Nat × Nat)} (hp : ∀ i r, fs[i]? = some r → place i = some (r.1, r.2.2)) :
    ∀ (parts : List (Nat × V)) (ps : List (Nat × Value)) (cs out : List V) (vs : Array Value), fillV fs parts cs = some out → ps.map (·.1) = parts.map (·.1) →
      (∀ (j : Nat) (x : Nat × V) (u : Nat × Value), parts[j]? = some x → ps[j]? = some u → RV γ S w x.2 u.2) → RVs γ S w cs vs.toList →
      ∃ r, Instr.fill place vs ps = some r ∧ RVs γ S w out r.toList
  | [], ps, cs, out, vs, h, hm, hr, hv => by
    simp only [fillV] at h
    cases h
    cases ps with
    | nil => exact ⟨vs, rfl, hv⟩
    | cons p ps => simp at hm
  | (i, x) :: parts, ps, cs, out, vs, h, hm, hr, hv => by
    cases ps with
    | nil => simp at hm
    | cons p ps =>
      obtain ⟨i', u⟩ := p
      simp only [List.map_cons, List.cons.injEq] at hm
      obtain ⟨rfl, hm⟩ := hm
      simp only [fillV] at h
      cases hf : fs[i']? with
      | none => simp [hf] at h
      | some r =>
        simp only [hf, Option.bind_some] at h
        split at h <;> first | (cases h; done) | skip
        split at h <;> first | (cases h; done) | skip
        split at h <;> first | (cases h; done) | skip
        rename_i hb hl hle
        have hx := (hr 0 (i', x) (i', u) rfl rfl).cells hb
        have hsz : u.cells.size = r.2.2 := by have := hx.1; simp at this; omega
        have hcs : vs.size = cs.length := by have := hv.1; simpa using this
        have hput := hv.put hx (off := r.1) (by show r.1 + x.cells.length ≤ cs.length; omega)
        rw [Array.length_toList] at hput
        simp only at hput
        rw [← foldl_set_list r.1 u.cells vs (by omega)] at hput
        obtain ⟨out', h1, h2⟩ := fillV_ok hp parts ps _ out _ h hm (fun j x u hx hu => hr (j + 1) x u (by simpa using hx) (by simpa using hu)) hput
        refine ⟨out', ?_, h2⟩
        have hc : ¬ (u.cells.size ≠ r.2.2 ∨ r.1 + u.cells.size > vs.size) := by omega
        unfold Instr.fill
        rw [hp i' r hf]
        simp only [ne_eq, Bool.or_eq_true, decide_eq_true_eq]
        rw [if_neg hc]
        exact h1

section
variable {P : Program} {ty : Nat → Option TI} (hty : TyOk P ty) {γ : Gh} {S : St} {w : World}

theorem RVs.agg {cs : List V} {vs : Array Value} (h : RVs γ S w cs vs.toList) : RV γ S w (mkAgg cs) (.agg vs) := by
  have hl : vs.size = cs.length := by simpa using h.1
  refine mkAgg_ok hl (fun j v hv => ?_) (fun j y v hy hv => (h.2 j y v hy (by simpa using hv)).2)
  have hj := (Array.getElem?_eq_some_iff.1 hv).1
  exact (h.2 j cs[j] v (by simp [hl ▸ hj]) (by simpa using hv)).1

include hty
theorem buildV_ok {E : Env} (hE : E.ty = ty) {t : Nat} {parts : List (Nat × V)} {ps : Array (Nat × Value)} {y : V} (h : buildV E t parts = some y) (hm : ps.toList.map (·.1) = parts.map (·.1))
    (hr : ∀ (j : Nat) (x : Nat × V) (u : Nat × Value), parts[j]? = some x → ps.toList[j]? = some u → RV γ S w x.2 u.2) :
    ∃ u, (Instr.build t ps).run P w = .ok u w ∧ RV γ S w y u := by
  subst hE
  unfold buildV at h
  cases ht : E.ty t with
  | none => simp [ht] at h
  | some i =>
    simp only [ht, Option.bind_some] at h
    split at h <;> first | (cases h; done) | skip
    rename_i fs hd
    simp only [Option.map_eq_some_iff] at h
    obtain ⟨out, h, rfl⟩ := h
    obtain ⟨info, z, hi, hs, hb, hz, hval, hzs⟩ := hty.info ht
    obtain ⟨fields, hP, hfs⟩ := hty.struct ht hd
    have hzero : RVs γ S w (i.zero.cells.map .d) z.cells.toList := RVs.of_RD (RD.of_isVal γ.fz w _ _ hval)
    have hmap : ∀ (l : List Field) (rs : List (Nat × Nat × Nat)), l.map (fun f => (f.offset, f.type, (P.info? f.type).map (·.size))) = rs.map (fun r => (r.1, r.2.1, some r.2.2)) →
        l.mapM (fun f => (P.info? f.type).map fun i => (f.offset, i.size)) = some (rs.map fun r => (r.1, r.2.2)) := by
      intro l
      induction l with
      | nil => intro rs h; cases rs <;> simp at h ⊢
      | cons f l ih =>
        intro rs h
        cases rs with
        | nil => simp at h
        | cons r rs =>
          simp only [List.map_cons, List.cons.injEq, Prod.mk.injEq] at h
          obtain ⟨⟨h1, h2, h3⟩, h4⟩ := h
          simp only [Option.map_eq_some_iff] at h3
          obtain ⟨inf, h5, h6⟩ := h3
          simp [List.mapM_cons, h5, ih rs h4, h1, h6]
    obtain ⟨r, hr1, hr2⟩ := fillV_ok (γ := γ) (S := S) (w := w) (fs := fs) (place := fun x => (fs.map fun r => (r.1, r.2.2)).toArray[x]?) (fun j r hj => by simp [hj]) parts ps.toList _ _ z.cells h hm hr hzero
    have hbuilt : P.built t ps.toList = some r := by
      unfold Program.built
      rw [hi, hP]
      simp only [hz, hmap _ _ hfs]
      exact hr1
    exact ⟨_, run_build w t ps r hbuilt, hr2.agg⟩

theorem alloc_ok (hI : Inv γ S w) {o : Nat} (hdead : S[o]? = some .dead) (hnone : γ.mu o = none) {t : Nat} {i : TI} (ht : ty t = some i) :
    ∃ u γ' w', (Instr.alloc t true (.tuple #[])).run P w = .ok u w' ∧ Inv γ' (S.set o (.box (i.zero.cells.map .d))) w' ∧ Ext S.length γ S w γ' (S.set o (.box (i.zero.cells.map .d))) w' ∧
      RV γ' (S.set o (.box (i.zero.cells.map .d))) w' (.ptr o 0) u := by
  obtain ⟨info, z, hi, hs, hb, hz, hval, hzs⟩ := hty.info ht
  have hzero : RVs γ S w (i.zero.cells.map .d) z.cells.toList := RVs.of_RD (RD.of_isVal γ.fz w _ _ hval)
  obtain ⟨h1, h2, h3⟩ := new_box hI hdead hnone (i.zero.cells.map .d) z.cells t (by simpa using hzero.1) (fun j x v hx hv => hzero.2 j x v hx (by simpa using hv))
  refine ⟨_, _, _, ?_, h1, h2, h3⟩
  simp [Instr.alloc, zeroValue, typeInfo, hi, hz, newVar, newRow]

omit hty
theorem box_ok (hI : Inv γ S w) {o : Nat} (hdead : S[o]? = some .dead) (hnone : γ.mu o = none) {t : Nat} {x : V} {v : Value} (hx : RV γ S w x v) (hb : x.boxable = true) :
    ∃ u γ' w', (Instr.box t v).run P w = .ok u w' ∧ Inv γ' (S.set o (.box x.cells)) w' ∧ Ext S.length γ S w γ' (S.set o (.box x.cells)) w' ∧
      RV γ' (S.set o (.box x.cells)) w' (.ptr o 0) u := by
  have hc := hx.cells hb
  obtain ⟨h1, h2, h3⟩ := new_box hI hdead hnone x.cells v.cells t (by simpa using hc.1) (fun j x v hx hv => hc.2 j x v hx (by simpa using hv))
  refine ⟨_, _, _, ?_, h1, h2, h3⟩
  simp [Instr.box, newVar, newRow]

theorem setRow_get (w : World) (g : Nat) (old cs : Array Value) (t : TypeId) (fr : Nat × Nat) (hg : w.heap[g]? = some (.cells old t fr)) : (w.setRow g cs).heap[g]? = some (.cells cs t fr) :=
  setRow_heap w g old cs t fr hg

include hty
theorem stV_ok (hI : Inv γ S w) {E : Env} (hE : E.ty = ty) {t : Nat} {x y : V} {v u : Value} {S' : Nat × AObj} (h : stV E t S x y = some S') (hx : RV γ S w x v) (hy : RV γ S w y u) :
    ∃ w', (Instr.storeAt t v u).run P w = .ok () w' ∧ Inv γ (S.set S'.1 S'.2) w' ∧ Ext S.length γ S w γ (S.set S'.1 S'.2) w' := by
  subst hE
  unfold stV at h
  cases ht : E.ty t with
  | none => simp [ht] at h
  | some i =>
    simp only [ht, Option.bind_some] at h
    split at h <;> first | (cases h; done) | skip
    rename_i o off
    split at h <;> first | (cases h; done) | skip
    rename_i cs ho
    split at h <;> first | (cases h; done) | skip
    split at h <;> first | (cases h; done) | skip
    split at h <;> first | (cases h; done) | skip
    rename_i hl hle hb
    cases h
    cases hx with
    | ptr _ _ b cs' ho' hmu =>
      obtain ⟨vs, e, h2, h3, h4, h5, h6⟩ := box_cells ho hI hmu
      have hc := hy.cells hb
      have hs := hty.size ht w
      have hul : u.cells.size = i.size := by have := hc.1; simp at this; omega
      have hone : ∀ v ∈ u.cells.toList, v.oneCell' = true := fun v hv => by
        obtain ⟨j, hj⟩ := List.getElem?_of_mem hv
        have hjl : j < y.cells.length := by
          have := (List.getElem?_eq_some_iff.1 hj).1
          have := hc.1; omega
        exact (hc.2 j y.cells[j] v (by simp [hjl]) hj).1
      have hst := run_storeCells_at P b off e u.cells.toList 0 vs w h2 (by simp; omega) hone
      simp only [Nat.add_zero] at hst
      have hcells : RVs γ S w cs vs.toList := ⟨by simpa using h3, fun j y u hy hu => h5 j y u hy (by simpa using hu)⟩
      have hput := hcells.put hc (off := off) (by omega)
      have hk : Keep γ w γ (w.setRow b (vs.toList.take off ++ u.cells.toList ++ vs.toList.drop (off + u.cells.toList.length)).toArray) o (.box cs) (some (.box (putCells cs off y.cells))) := ⟨rfl, _, rfl⟩
      have he := Ext.setObj (γ' := γ) hI ho hmu (fun _ _ => rfl) (by simp) (fun c hc => setRow_other w b c _ hc) (fun _ _ h => h) (fun _ _ h => .inl h) (fun off' hf => absurd hf (h6 off')) hk rfl rfl rfl
      refine ⟨_, ?_, Inv.setObj (γ' := γ) hI ho hmu (fun _ _ => rfl) (by simp) (fun c hc => setRow_other w b c _ hc) (fun _ _ h => .inl h) he ?_, he⟩
      · simp [Instr.storeAt, Instr.sureAddr, storeVar, hs, hul, hst]
      · refine ⟨b, _, e, hmu, setRow_heap w b vs _ e _ h2, by simpa using hput.1, fun j y u hy hu => ?_, h6⟩
        have := hput.mono he
        exact this.2 j y u hy (by simpa using hu)
end
end Go.Vm
