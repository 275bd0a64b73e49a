/-
  A part of the proof: an abstract run of the program, shown to be what the model does, and what it comes to.
-/
import Derived.Test.YtfopbbeieegfcaaVmD
set_option linter.unusedVariables false
set_option linter.unusedSimpArgs false
set_option linter.unusedSectionVars false
set_option linter.unnecessarySimpa false
namespace Go.Vm
open Go

theorem Tm.get_put (T : Tm) (d : Option Nat) (v : V) (i : Nat) : (T.put d v).get i = if d = some i then v else T.get i := by
  cases d with
  | none => simp [Tm.put]
  | some j => simp [Tm.put, Tm.get]

theorem allD_some : ∀ {cs : List V} {xs : List D}, allD cs = some xs → cs = xs.map .d
  | [], xs, h => by simp [allD] at h; subst h; rfl
  | .d x :: r, xs, h => by
    simp only [allD, Option.map_eq_some_iff] at h
    obtain ⟨ys, h1, rfl⟩ := h
    rw [allD_some h1]; rfl
  | .any :: _, _, h | .own .. :: _, _, h | .fsl .. :: _, _, h | .ptr .. :: _, _, h | .cptr .. :: _, _, h | .fn .. :: _, _, h | .agg .. :: _, _, h | .tup .. :: _, _, h => by
    simp [allD] at h

theorem mkAgg_ok {γ : Gh} {S : St} {w : World} {cs : List V} {vs : Array Value} (hl : vs.size = cs.length) (h1 : ∀ (j : Nat) (v : Value), vs[j]? = some v → v.oneCell' = true)
    (hr : ∀ (j : Nat) (y : V) (v : Value), cs[j]? = some y → vs[j]? = some v → RV γ S w y v) : RV γ S w (mkAgg cs) (.agg vs) := by
  unfold mkAgg
  split
  · rename_i xs h
    have e := allD_some h
    subst e
    have key : ∀ (j : Nat) (y : D) (v : Value), xs[j]? = some y → vs[j]? = some v → RD γ.fz w y v := fun j y v hy hv => by
      have := hr j (.d y) v (by simp [hy]) hv
      cases this with
      | d _ _ h => exact h
    refine .d _ _ (.agg xs vs (by simpa using hl) (fun y hy => ?_) key)
    obtain ⟨j, hj⟩ := List.getElem?_of_mem hy
    have hjl : j < vs.size := by
      have := (List.getElem?_eq_some_iff.1 hj).1
      simp at hl; omega
    exact (key j y vs[j] hj (by simp [hjl])).one_of (h1 j vs[j] (by simp [hjl]))
  · exact .agg cs vs hl h1 hr

section
variable {P : Program} {ty : Nat → Option TI} (hty : TyOk P ty) {γ : Gh} {S : St} {w : World} (hI : Inv γ S w)

include hty
/-- a piece of data's cells, read -/
theorem run_loadVar_piece {t : Nat} {i : TI} (ht : ty t = some i) (b o n : Nat) (vs : Nat → Value) (hc : ∀ j, j < n → w.cell? ⟨b, o + j, none⟩ = some (vs j)) (off : Nat) (ho : off < n ∨ i.desc.isAgg = true)
    (hl : i.desc.isAgg = true → off + i.size ≤ n) :
    (loadVar t ⟨b, o + off, none⟩).run P w = .ok (if i.desc.isAgg then .agg ((List.range i.size).map fun j => vs (off + j)).toArray else vs off) w := by
  have h1 := hty.isAgg ht w
  have h2 := hty.size ht w
  cases hd : i.desc.isAgg with
  | true =>
    have := run_loadCells (P := P) w ⟨b, o + off, none⟩ i.size (fun j => vs (off + j)) (fun j hj => by
      rw [Addr.add_lit, Nat.add_assoc]; exact hc (off + j) (by have := hl hd; omega))
    rw [hd] at h1
    simp [loadVar, h1, h2, this]
  | false =>
    rw [hd] at h1
    have h3 : w.cell? ⟨b, o + off, none⟩ = some (vs off) := hc off (by simpa [hd] using ho)
    simp [loadVar, h1, h3]

theorem pieceD_ok {t : Nat} {i : TI} (ht : ty t = some i) {b o off : Nat} {x : D} {y : D} {vs : Nat → Value} {fz : Nat → Nat → Prop}
    (hc : ∀ (j : Nat), j < x.cells.length → w.cell? ⟨b, o + j, none⟩ = some (vs j)) (hr : ∀ (j : Nat) (y : D), x.cells[j]? = some y → y.one = true ∧ RD fz w y (vs j))
    (h : pieceD i x.cells off = some y) : ∃ u, (loadVar t ⟨b, o + off, none⟩).run P w = .ok u w ∧ RD fz w y u := by
  unfold pieceD at h
  cases hd : i.desc.isAgg with
  | true =>
    simp only [hd, if_true] at h
    split at h <;> cases h
    rename_i hle
    refine ⟨_, run_loadVar_piece hty ht b o _ vs hc off (.inr hd) (fun _ => hle), ?_⟩
    rw [hd]
    simp only [if_true]
    refine .agg _ _ (by simp; omega) (fun y hy => ?_) (fun j y v hy hv => ?_)
    · obtain ⟨j, hj⟩ := List.getElem?_of_mem hy
      rw [List.getElem?_take] at hj
      split at hj
      · rw [List.getElem?_drop] at hj; exact (hr _ y hj).1
      · cases hj
    · rw [List.getElem?_take] at hy
      split at hy
      · rename_i hj
        rw [List.getElem?_drop] at hy
        simp [List.getElem?_range hj] at hv
        subst hv
        exact (hr _ y hy).2
      · cases hy
  | false =>
    simp only [hd, Bool.false_eq_true, if_false] at h
    have hlt := (List.getElem?_eq_some_iff.1 h).1
    refine ⟨_, run_loadVar_piece hty ht b o _ vs hc off (.inl hlt) (fun e => by rw [hd] at e; cases e), ?_⟩
    rw [hd]
    exact (hr off y h).2

theorem pieceV_ok {t : Nat} {i : TI} (ht : ty t = some i) {b off : Nat} {cs : List V} {y : V} {vs : Array Value} (hl : vs.size = cs.length)
    (hc : ∀ (j : Nat) (v : Value), vs[j]? = some v → w.cell? ⟨b, j, none⟩ = some v)
    (hr : ∀ (j : Nat) (x : V) (v : Value), cs[j]? = some x → vs[j]? = some v → v.oneCell' = true ∧ RV γ S w x v)
    (h : pieceV i cs off = some y) : ∃ u, (loadVar t ⟨b, off, none⟩).run P w = .ok u w ∧ RV γ S w y u := by
  have hc' : ∀ j, j < cs.length → w.cell? ⟨b, 0 + j, none⟩ = some (vs.getD j undef) := fun j hj => by
    rw [Nat.zero_add]; exact hc j _ (by simp [hl ▸ hj])
  have hz := fun (h1) (h2) => run_loadVar_piece (w := w) hty ht b 0 cs.length (fun j => vs.getD j undef) hc' off h1 h2
  rw [Nat.zero_add] at hz
  unfold pieceV at h
  cases hd : i.desc.isAgg with
  | true =>
    simp only [hd, if_true] at h hz
    split at h <;> cases h
    rename_i hle
    refine ⟨_, hz (.inr trivial) (fun _ => hle), mkAgg_ok (by simp; omega) (fun j v hv => ?_) (fun j y v hy hv => ?_)⟩
    · have hj : j < i.size := by
        have := (Array.getElem?_eq_some_iff.1 hv).1
        simpa using this
      simp [List.getElem?_range hj] at hv
      subst hv
      have hlt : off + j < cs.length := by omega
      exact (hr (off + j) cs[off + j] _ (by simp [hlt]) (by simp [hl ▸ hlt])).1
    · rw [List.getElem?_take] at hy
      split at hy
      · rename_i hj
        rw [List.getElem?_drop] at hy
        simp [List.getElem?_range hj] at hv
        subst hv
        have hlt := (List.getElem?_eq_some_iff.1 hy).1
        exact (hr _ y _ hy (by simp [hl ▸ hlt])).2
      · cases hy
  | false =>
    simp only [hd, Bool.false_eq_true, if_false] at h hz
    have hlt := (List.getElem?_eq_some_iff.1 h).1
    exact ⟨_, hz (.inl hlt) (fun e => by cases e), (hr off y _ h (by simp [hl ▸ hlt])).2⟩

omit hty in
theorem box_cells {o : Nat} {cs : List V} (ho : S[o]? = some (.box cs)) (hI : Inv γ S w) {b : Nat} (hb : γ.mu o = some b) :
    ∃ vs e, w.heap[b]? = some (.cells vs e (0, 0)) ∧ vs.size = cs.length ∧ (∀ (j : Nat) (v : Value), vs[j]? = some v → w.cell? ⟨b, j, none⟩ = some v) ∧
      (∀ (i : Nat) (x : V) (v : Value), cs[i]? = some x → vs[i]? = some v → v.oneCell' = true ∧ RV γ S w x v) ∧ ∀ off, ¬ γ.fz b off := by
  obtain ⟨b', vs, e, h1, h2, h3, h4, h5⟩ := hI.obj o _ ho
  rw [hb] at h1
  cases h1
  exact ⟨vs, e, h2, h3, fun j v hv => by rw [cell_of_row w b j vs e _ h2]; exact hv, h4, h5⟩

include hI
theorem ldV_ok {E : Env} (hE : E.ty = ty) {t : Nat} {x y : V} {v : Value} (h : ldV E t S x = some y) (hx : RV γ S w x v) :
    ∃ u, (Instr.loadAt t v).run P w = .ok u w ∧ RV γ S w y u := by
  subst hE
  unfold ldV at h
  cases ht : E.ty t with
  | none => simp [ht] at h
  | some i =>
    simp only [ht, Option.bind_some] at h
    split at h
    · rename_i sz x off
      simp only [Option.map_eq_some_iff] at h
      obtain ⟨y', h, rfl⟩ := h
      cases hx with
      | cptr _ _ b o _ vs hsz hc hr =>
        subst hsz
        obtain ⟨u, h1, h2⟩ := pieceD_ok hty ht (b := b) (o := o) (fun j hj => (hc j hj).2) hr h
        exact ⟨u, by simpa [Instr.loadAt, Instr.sureAddr] using h1, .d _ _ h2⟩
    · rename_i o off
      split at h
      · rename_i cs ho
        cases hx with
        | ptr _ _ b cs' ho' hb =>
          obtain ⟨vs, e, h2, h3, h4, h5, _⟩ := box_cells ho hI hb
          obtain ⟨u, g1, g2⟩ := pieceV_ok hty ht h3 h4 h5 h
          exact ⟨u, by simpa [Instr.loadAt, Instr.sureAddr] using g1, g2⟩
      · cases h
    · cases h

omit hI hty
theorem sliceOf_ok {x : V} {v : Value} {nn : Bool} {sz : Nat} {xs : List D} (h : sliceOf x = some (nn, sz, xs)) (hx : RV γ S w x v) : RD γ.fz w (.sl nn sz xs) v := by
  unfold sliceOf at h
  split at h <;> first | (cases h; done) | skip
  all_goals
    cases h
    cases hx
    assumption

include hty in
theorem idxA_ok {E : Env} (hE : E.ty = ty) {t : Nat} {x y : V} {v : Value} {k : IntKind} {i : Int} (h : idxA E t x i = some y) (hx : RV γ S w x v) :
    ∃ u, (Instr.indexAt t v (.int k i)).run P w = .ok u w ∧ RV γ S w y u := by
  subst hE
  unfold idxA at h
  split at h
  · rename_i o off
    unfold Env.arr at h
    cases ht : E.ty t with
    | none => simp [ht] at h
    | some ti =>
      simp only [ht, Option.bind_some] at h
      cases hd : ti.desc <;> rw [hd] at h <;> simp only [Option.bind_none, Option.bind_some] at h <;> first | (cases h; done) | skip
      rename_i n e s
      split at h <;> first | (cases h; done) | skip
      split at h <;> first | (cases h; done) | skip
      split at h <;> first | (cases h; done) | skip
      rename_i hn h0 h1
      cases h
      cases hx with
      | ptr _ _ b cs ho hb =>
        obtain ⟨hu, hs⟩ := hty.array ht hd
        refine ⟨.pointer (some ⟨b, off + i.toNat * s, none⟩), ?_, .ptr o _ b cs ho hb⟩
        simp [Instr.indexAt, asIntOf, run_underlying hu, Instr.sureAddr, h0, h1, hs, Addr.add_lit]
  · cases hr : sliceOf x with
    | none => simp [hr] at h
    | some r =>
      obtain ⟨nn, sz, xs⟩ := r
      unfold Env.elem at h
      cases ht : E.ty t with
      | none => simp [hr, ht] at h
      | some ti =>
        simp only [hr, ht, Option.bind_some] at h
        cases hd : ti.desc <;> rw [hd] at h <;> simp only [Option.bind_none, Option.bind_some] at h <;> first | (cases h; done) | skip
        rename_i e es eb
        · split at h <;> first | (cases h; done) | skip
          rename_i hsz
          simp only [Option.map_eq_some_iff] at h
          obtain ⟨z, h, rfl⟩ := h
          unfold idxD at h
          split at h <;> first | (cases h; done) | skip
          rename_i h0
          have hlt := (List.getElem?_eq_some_iff.1 h).1
          rcases (sliceOf_ok hr hx).sl_inv with ⟨_, rfl, _⟩ | ⟨rfl, a, cap, vs, rfl, hs, hcap, hmax, hszs, hc, hrr⟩
          · simp at h
          · have ha : a.spot = none := by
              rcases hs with rfl | hs
              · simp at h
              · exact hs
            have hu := (hty.slice ht hd).1
            have hz := hty.sliceSize ht hd w
            obtain ⟨ab, ao, asp⟩ := a
            simp only at ha
            subst ha
            have h1 : i < (xs.length : Int) := by omega
            have hmem : z ∈ xs := List.mem_of_getElem? h
            refine ⟨.pointer (some ⟨ab, ao + i.toNat * es + 0, none⟩), ?_, .cptr sz 0 ab _ z (vs i.toNat) (hszs z hmem).1 (fun j hj => ?_) (fun j y hy => ?_)⟩
            · simp [Instr.indexAt, asIntOf, run_underlying hu, h0, h1, hz, Addr.add_lit]
            · have := hc i.toNat j hlt hj
              rw [hsz]
              exact this
            · have hd := hrr i.toNat j z y h hy
              have hj : j < sz := by
                have := (List.getElem?_eq_some_iff.1 hy).1
                rw [(hszs z hmem).1] at this; exact this
              exact ⟨(hszs z hmem).2 y (List.mem_of_getElem? hy), hd⟩
end
end Go.Vm
