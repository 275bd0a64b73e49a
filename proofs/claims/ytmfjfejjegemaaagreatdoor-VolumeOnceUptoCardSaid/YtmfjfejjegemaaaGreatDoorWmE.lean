/-
  A part of the proof: an abstract run of the program, shown to be what the model does, and what it comes to.
-/
import Derived.Test.YtmfjfejjegemaaaGreatDoorWmD
set_option linter.unusedVariables false
set_option linter.unusedSimpArgs false
set_option linter.unnecessarySimpa false
set_option linter.defProp false
set_option linter.unusedSectionVars false
namespace Go.Wm
open Go
variable [GlobReq]

theorem Tm.get_put (T : Tm) (d : Option Nat) (v : V) (i : Nat) : (T.put d v).get i = if d = some i then v else T.get i := by
  cases d with
  | none => simp [Tm.put]
  | some j => simp [Tm.put, Tm.get]

theorem allD_some : ∀ {cs : List V} {xs : List D}, allD cs = some xs → cs = xs.map .d
  | [], xs, h => by simp [allD] at h; subst h; rfl
  | .d x :: r, xs, h => by
    simp only [allD, Option.map_eq_some_iff] at h
    obtain ⟨ys, h1, rfl⟩ := h
    rw [allD_some h1]; rfl
  | .any :: _, _, h | .und :: _, _, h | .csl .. :: _, _, h | .nil :: _, _, h | .emp :: _, _, h | .own .. :: _, _, h | .fsl .. :: _, _, h | .sl .. :: _, _, h | .ptr .. :: _, _, h | .eptr .. :: _, _, h | .cptr .. :: _, _, h | .mp .. :: _, _, h | .fn .. :: _, _, h | .agg .. :: _, _, h | .tup .. :: _, _, h => by
    simp [allD] at h

theorem mkAgg_ok {γ : Gh} {S : St} {w : World} {cs : List V} {vs : Array Value} (hl : vs.size = cs.length) (h1 : ∀ (j : Nat) (v : Value), vs[j]? = some v → v.oneCell' = true)
    (hr : ∀ (j : Nat) (y : V) (v : Value), cs[j]? = some y → vs[j]? = some v → RV γ S w y v) : RV γ S w (mkAgg cs) (.agg vs) := by
  unfold mkAgg
  split
  · rename_i xs h
    have e := allD_some h
    subst e
    have key : ∀ (j : Nat) (y : D) (v : Value), xs[j]? = some y → vs[j]? = some v → RD γ.fz w y v := fun j y v hy hv => by
      have := hr j (.d y) v (by simp [hy]) hv
      cases this with
      | d _ _ h => exact h
    refine .d _ _ (.agg xs vs (by simpa using hl) (fun y hy => ?_) key)
    obtain ⟨j, hj⟩ := List.getElem?_of_mem hy
    have hjl : j < vs.size := by
      have := (List.getElem?_eq_some_iff.1 hj).1
      simp at hl; omega
    exact (key j y vs[j] hj (by simp [hjl])).one_of (h1 j vs[j] (by simp [hjl]))
  · exact .agg cs vs hl h1 hr

section
variable {P : Program} {ty : Nat → Option TI} (hty : TyOk P ty) {γ : Gh} {S : St} {w : World} (hI : Inv γ S w)

include hty
/-- a piece of data's cells, read -/
theorem run_loadVar_piece {t : Nat} {i : TI} (ht : ty t = some i) (b o n : Nat) (vs : Nat → Value) (hc : ∀ j, j < n → w.cell? ⟨b, o + j, none⟩ = some (vs j)) (off : Nat) (ho : off < n ∨ i.desc.isAgg = true)
    (hl : i.desc.isAgg = true → off + i.size ≤ n) :
    (loadVar t ⟨b, o + off, none⟩).run P w = .ok (if i.desc.isAgg then .agg ((List.range i.size).map fun j => vs (off + j)).toArray else vs off) w := by
  have h1 := hty.isAgg ht w
  have h2 := hty.size ht w
  cases hd : i.desc.isAgg with
  | true =>
    have := run_loadCells (P := P) w ⟨b, o + off, none⟩ i.size (fun j => vs (off + j)) (fun j hj => by
      rw [Addr.add_lit, Nat.add_assoc]; exact hc (off + j) (by have := hl hd; omega))
    rw [hd] at h1
    simp [loadVar, h1, h2, this]
  | false =>
    rw [hd] at h1
    have h3 : w.cell? ⟨b, o + off, none⟩ = some (vs off) := hc off (by simpa [hd] using ho)
    simp [loadVar, h1, h3]

theorem pieceD_ok {t : Nat} {i : TI} (ht : ty t = some i) {b o off : Nat} {x : D} {y : D} {vs : Nat → Value} {fz : Nat → Nat → Prop}
    (hc : ∀ (j : Nat), j < x.cells.length → w.cell? ⟨b, o + j, none⟩ = some (vs j)) (hr : ∀ (j : Nat) (y : D), x.cells[j]? = some y → y.one = true ∧ RD fz w y (vs j))
    (h : pieceD i x.cells off = some y) : ∃ u, (loadVar t ⟨b, o + off, none⟩).run P w = .ok u w ∧ RD fz w y u := by
  unfold pieceD at h
  cases hd : i.desc.isAgg with
  | true =>
    simp only [hd, if_true] at h
    split at h <;> cases h
    rename_i hle
    refine ⟨_, run_loadVar_piece hty ht b o _ vs hc off (.inr hd) (fun _ => hle), ?_⟩
    rw [hd]
    simp only [if_true]
    refine .agg _ _ (by simp; omega) (fun y hy => ?_) (fun j y v hy hv => ?_)
    · obtain ⟨j, hj⟩ := List.getElem?_of_mem hy
      rw [List.getElem?_take] at hj
      split at hj
      · rw [List.getElem?_drop] at hj; exact (hr _ y hj).1
      · cases hj
    · rw [List.getElem?_take] at hy
      split at hy
      · rename_i hj
        rw [List.getElem?_drop] at hy
        simp [List.getElem?_range hj] at hv
        subst hv
        exact (hr _ y hy).2
      · cases hy
  | false =>
    simp only [hd, Bool.false_eq_true, if_false] at h
    have hlt := (List.getElem?_eq_some_iff.1 h).1
    refine ⟨_, run_loadVar_piece hty ht b o _ vs hc off (.inl hlt) (fun e => by rw [hd] at e; cases e), ?_⟩
    rw [hd]
    exact (hr off y h).2

theorem pieceV_ok {t : Nat} {i : TI} (ht : ty t = some i) {b off : Nat} {cs : List V} {y : V} {vs : Array Value} (hl : vs.size = cs.length)
    (hc : ∀ (j : Nat) (v : Value), vs[j]? = some v → w.cell? ⟨b, j, none⟩ = some v)
    (hr : ∀ (j : Nat) (x : V) (v : Value), cs[j]? = some x → vs[j]? = some v → v.oneCell' = true ∧ RV γ S w x v)
    (h : pieceV i cs off = some y) : ∃ u, (loadVar t ⟨b, off, none⟩).run P w = .ok u w ∧ RV γ S w y u := by
  have hc' : ∀ j, j < cs.length → w.cell? ⟨b, 0 + j, none⟩ = some (vs.getD j undef) := fun j hj => by
    rw [Nat.zero_add]; exact hc j _ (by simp [hl ▸ hj])
  have hz := fun (h1) (h2) => run_loadVar_piece (w := w) hty ht b 0 cs.length (fun j => vs.getD j undef) hc' off h1 h2
  rw [Nat.zero_add] at hz
  unfold pieceV at h
  cases hd : i.desc.isAgg with
  | true =>
    simp only [hd, if_true] at h hz
    split at h <;> cases h
    rename_i hle
    refine ⟨_, hz (.inr trivial) (fun _ => hle), mkAgg_ok (by simp; omega) (fun j v hv => ?_) (fun j y v hy hv => ?_)⟩
    · have hj : j < i.size := by
        have := (Array.getElem?_eq_some_iff.1 hv).1
        simpa using this
      simp [List.getElem?_range hj] at hv
      subst hv
      have hlt : off + j < cs.length := by omega
      exact (hr (off + j) cs[off + j] _ (by simp [hlt]) (by simp [hl ▸ hlt])).1
    · rw [List.getElem?_take] at hy
      split at hy
      · rename_i hj
        rw [List.getElem?_drop] at hy
        simp [List.getElem?_range hj] at hv
        subst hv
        have hlt := (List.getElem?_eq_some_iff.1 hy).1
        exact (hr _ y _ hy (by simp [hl ▸ hlt])).2
      · cases hy
  | false =>
    simp only [hd, Bool.false_eq_true, if_false] at h hz
    have hlt := (List.getElem?_eq_some_iff.1 h).1
    exact ⟨_, hz (.inl hlt) (fun e => by cases e), (hr off y _ h (by simp [hl ▸ hlt])).2⟩

omit hty in
theorem box_cells {o : Nat} {cs : List V} (ho : S[o]? = some (.box cs)) (hI : Inv γ S w) {b : Nat} (hb : γ.mu o = some b) :
    ∃ vs e, w.heap[b]? = some (.cells vs e (0, 0)) ∧ vs.size = cs.length ∧ (∀ (j : Nat) (v : Value), vs[j]? = some v → w.cell? ⟨b, j, none⟩ = some v) ∧
      (∀ (i : Nat) (x : V) (v : Value), cs[i]? = some x → vs[i]? = some v → v.oneCell' = true ∧ RV γ S w x v) ∧ ∀ off, ¬ γ.fz b off := by
  obtain ⟨b', vs, e, h1, h2, h3, h4, h5⟩ := hI.obj o _ ho
  rw [hb] at h1
  cases h1
  exact ⟨vs, e, h2, h3, fun j v hv => by rw [cell_of_row w b j vs e _ h2]; exact hv, h4, h5⟩

include hI
omit hI hty
theorem rowAt_some {S : St} {o e sz : Nat} {xs : List D} (h : rowAt S o = some (e, sz, xs)) : ∃ ob, S[o]? = some ob ∧ ob.rowOf = some (e, sz, xs) := by
  unfold rowAt at h
  exact Option.bind_eq_some_iff.1 h

/-- a row's cells -/
theorem row_cells {o : Nat} {ob : AObj} {e sz : Nat} {xs : List D} (hI : Inv γ S w) (ho : S[o]? = some ob) (hr : ob.rowOf = some (e, sz, xs)) {b : Nat} (hb : γ.mu o = some b) :
    ∃ cur, w.heap[b]? = some (.cells cur e (0, 0)) ∧ RowOk γ.fz w sz xs cur := by
  have := hI.obj o _ ho
  cases ob <;> simp only [AObj.rowOf, Option.some.injEq, Prod.mk.injEq, reduceCtorEq] at hr
  all_goals
    obtain ⟨rfl, rfl, rfl⟩ := hr
    exact (this.2 b hb).1

theorem RV.sl_row {o lo n : Nat} {v : Value} (h : RV γ S w (.sl o lo n) v) {e sz : Nat} {xs : List D} (hr : rowAt S o = some (e, sz, xs)) : SlOk γ w o e sz xs.length lo n v := by
  obtain ⟨ob, ho, hro⟩ := rowAt_some hr
  cases h with
  | sl _ _ _ ob' _ _ ho' hb hh =>
    rw [ho] at ho'
    cases ho'
    exact hh _ _ _ hro
theorem RV.eptr_row {o i off : Nat} {v : Value} (h : RV γ S w (.eptr o i off) v) {e sz : Nat} {xs : List D} (hr : rowAt S o = some (e, sz, xs)) : ∃ b, γ.mu o = some b ∧ v = .pointer (some ⟨b, i * sz + off, none⟩) := by
  obtain ⟨ob, ho, hro⟩ := rowAt_some hr
  cases h with
  | eptr _ _ _ ob' a ho' hb hh =>
    rw [ho] at ho'
    cases ho'
    obtain ⟨b, h1, h2⟩ := hh _ _ _ hro
    exact ⟨b, h1, by rw [h2]⟩

include hI hty
theorem ldV_ok {E : Env} (hE : E.ty = ty) {t : Nat} {x y : V} {v : Value} (h : ldV E t S x = some y) (hx : RV γ S w x v) :
    ∃ u, (Instr.loadAt t v).run P w = .ok u w ∧ RV γ S w y u := by
  subst hE
  unfold ldV at h
  cases ht : E.ty t with
  | none => simp [ht] at h
  | some i =>
    simp only [ht, Option.bind_some] at h
    split at h
    · rename_i x off
      simp only [Option.map_eq_some_iff] at h
      obtain ⟨y', h, rfl⟩ := h
      cases hx with
      | cptr _ b o _ vs hc hr =>
        obtain ⟨u, h1, h2⟩ := pieceD_ok hty ht (b := b) (o := o) (fun j hj => (hc j hj).2) hr h
        exact ⟨u, by simpa [Instr.loadAt, Instr.sureAddr] using h1, .d _ _ h2⟩
    · rename_i o k off
      cases hr : rowAt S o with
      | none => simp [hr] at h
      | some r =>
        obtain ⟨e, sz, xs⟩ := r
        simp only [hr, Option.bind_some] at h
        cases hk : xs[k]? with
        | none => simp [hk] at h
        | some x =>
          simp only [hk, Option.bind_some, Option.map_eq_some_iff] at h
          obtain ⟨y', h, rfl⟩ := h
          obtain ⟨b, hb, rfl⟩ := hx.eptr_row hr
          obtain ⟨ob, ho, hro⟩ := rowAt_some hr
          obtain ⟨cur, hcur, hrow1, hrow2, hrow3⟩ := row_cells hI ho hro hb
          have hc : ∀ j, j < x.cells.length → w.cell? ⟨b, k * sz + j, none⟩ = some (cur.getD (k * sz + j) undef) := fun j hj => by
            obtain ⟨v, h1, _⟩ := hrow3 k j x x.cells[j] hk (by simp [hj])
            rw [cell_of_row w b _ cur e _ hcur, h1]
            simp [h1]
          obtain ⟨u, h1, h2⟩ := pieceD_ok (fz := γ.fz) hty ht (b := b) (o := k * sz) hc (fun j y hy => by
            obtain ⟨v, h1, h2⟩ := hrow3 k j x y hk hy
            refine ⟨(hrow1 x (List.mem_of_getElem? hk)).2 y (List.mem_of_getElem? hy), ?_⟩
            simpa [h1] using h2) h
          exact ⟨u, by simpa [Instr.loadAt, Instr.sureAddr] using h1, .d _ _ h2⟩
    · rename_i o off
      split at h
      · rename_i cs ho
        cases hx with
        | ptr _ _ b cs' ho' hb =>
          obtain ⟨vs, e, h2, h3, h4, h5, _⟩ := box_cells ho hI hb
          obtain ⟨u, g1, g2⟩ := pieceV_ok hty ht h3 h4 h5 h
          exact ⟨u, by simpa [Instr.loadAt, Instr.sureAddr] using g1, g2⟩
      · cases h
    · cases h

omit hI hty
theorem RD.empty {fz : Nat → Nat → Prop} {w : World} (a : Addr) {c : Nat} (hc : c ≤ maxLen) : RD fz w (.sl []) (.slice (some a) 0 c) :=
  .sl 0 [] a c (fun _ _ => undef) (.inl rfl) (by simp) hc (fun x hx => by cases hx) (fun i j hi => by simp at hi) (fun i j x y hx => by simp at hx)
mutual
theorem asD_ok (γ : Gh) (S : St) (w : World) : ∀ (x : V) (y : D) (v : Value), asD x = some y → RV γ S w x v → RD γ.fz w y v
  | .d x, y, v, h, hx => by
    simp only [asD, Option.some.injEq] at h; subst h
    cases hx; assumption
  | .nil, y, v, h, hx => by
    simp only [asD, Option.some.injEq] at h; subst h
    cases hx; exact .nils
  | .emp, y, v, h, hx => by
    simp only [asD, Option.some.injEq] at h; subst h
    cases hx with
    | emp a c hc => exact RD.empty a hc
  | .own t xs, y, v, h, hx => by
    simp only [asD, Option.some.injEq] at h; subst h
    cases hx; assumption
  | .fsl xs, y, v, h, hx => by
    simp only [asD, Option.some.injEq] at h; subst h
    cases hx; assumption
  | .agg cs, y, v, h, hx => by
    simp only [asD, Option.map_eq_some_iff] at h
    obtain ⟨ds, h, rfl⟩ := h
    cases hx with
    | agg _ vs hl h1 hr =>
      obtain ⟨l1, g1⟩ := asDs_ok γ S w cs ds h
      have key : ∀ (j : Nat) (y : D) (v : Value), ds[j]? = some y → vs[j]? = some v → RD γ.fz w y v := fun j y v hy hv => by
        have hj := (List.getElem?_eq_some_iff.1 hy).1
        exact g1 j cs[j] y v (by simp [l1 ▸ hj]) hy (hr j cs[j] v (by simp [l1 ▸ hj]) hv)
      refine .agg ds vs (by omega) (fun y hy => ?_) key
      obtain ⟨j, hj⟩ := List.getElem?_of_mem hy
      have hjl := (List.getElem?_eq_some_iff.1 hj).1
      have hv : vs[j]? = some (vs[j]'(by omega)) := Array.getElem?_eq_getElem _
      exact (key j y _ hj hv).one_of (h1 j _ hv)
  | .any, _, _, h, _ | .und, _, _, h, _ | .csl .., _, _, h, _ | .sl .., _, _, h, _ | .ptr .., _, _, h, _ | .eptr .., _, _, h, _ | .cptr .., _, _, h, _ | .mp .., _, _, h, _ | .fn .., _, _, h, _ | .tup .., _, _, h, _ => by simp [asD] at h
theorem asDs_ok (γ : Gh) (S : St) (w : World) : ∀ (xs : List V) (ys : List D), asDs xs = some ys → ys.length = xs.length ∧ ∀ (j : Nat) (x : V) (y : D) (v : Value), xs[j]? = some x → ys[j]? = some y → RV γ S w x v → RD γ.fz w y v
  | [], ys, h => by simp [asDs] at h; subst h; exact ⟨rfl, fun j x y v h => by simp at h⟩
  | x :: xs, ys, h => by
    simp only [asDs] at h
    cases hx : asD x with
    | none => simp [hx] at h
    | some y =>
      simp only [hx, Option.bind_some, Option.map_eq_some_iff] at h
      obtain ⟨zs, h, rfl⟩ := h
      obtain ⟨h1, h2⟩ := asDs_ok γ S w xs zs h
      refine ⟨by simp [h1], fun j x' y' v hx' hy' hr => ?_⟩
      cases j with
      | zero => simp at hx' hy'; subst hx' hy'; exact asD_ok γ S w _ _ _ hx hr
      | succ j => simp at hx' hy'; exact h2 j x' y' v hx' hy' hr
end

end
end Go.Wm
