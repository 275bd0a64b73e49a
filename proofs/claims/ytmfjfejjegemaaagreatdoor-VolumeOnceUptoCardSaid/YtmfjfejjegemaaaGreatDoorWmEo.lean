/-
  A part of the proof: an abstract run of the program, shown to be what the model does, and what it comes to.
-/
import Derived.Test.YtmfjfejjegemaaaGreatDoorWmEn
set_option linter.unusedVariables false
set_option linter.unusedSimpArgs false
set_option linter.unnecessarySimpa false
set_option linter.defProp false
set_option linter.unusedSectionVars false
namespace Go.Wm
open Go Go.ChangeShapes Go.WideShapes Go.ChangeAt Go.RowKit
variable [GlobReq]
noncomputable section

section
variable {ty : Nat → Option TI} {k t : Nat} {cs : List D} {i : TI}
theorem shape_bool (ht : ty t = some i) (hd : i.desc = .bool) (h : shape ty (k + 1) t cs) : ∃ b, cs = [.bool b] := by
  simp only [shape, ht, Option.map_some, hd] at h
  exact h
theorem shape_int {kk : IntKind} (ht : ty t = some i) (hd : i.desc = .int kk) (h : shape ty (k + 1) t cs) : ∃ n, cs = [.int kk n] ∧ (Lit.int kk n).wf = true := by
  simp only [shape, ht, Option.map_some, hd] at h
  exact h
theorem shape_str (ht : ty t = some i) (hd : i.desc = .str) (h : shape ty (k + 1) t cs) : ∃ s, cs = [.str s] ∧ s.length ≤ maxLen := by
  simp only [shape, ht, Option.map_some, hd] at h
  exact h
theorem shape_sl {e s b : Nat} (ht : ty t = some i) (hd : i.desc = .sl e s b) (h : shape ty (k + 1) t cs) : ∃ xs, cs = [.sl xs] ∧ xs.length ≤ maxLen ∧ ∀ x ∈ xs, ∃ cs, shape ty k e cs ∧ x = elemT ty e cs := by
  simp only [shape, ht, Option.map_some, hd] at h
  exact h
theorem shape_st {fs : List (Nat × Nat × Nat)} (ht : ty t = some i) (hd : i.desc = .st fs) (h : shape ty (k + 1) t cs) : shapeF (shape ty k) fs cs := by
  simp only [shape, ht, Option.map_some, hd] at h
  exact h
theorem elemT_one {x : D} (ht : ty t = some i) (hd : i.desc.isAgg = false) : elemT ty t [x] = x := by
  simp only [elemT, ht, elemD, hd, Bool.false_eq_true, if_false]
theorem elemT_agg (ht : ty t = some i) (hd : i.desc.isAgg = true) : elemT ty t cs = .agg cs := by
  simp only [elemT, ht, elemD, hd, if_true]
end

section
variable {P : Program} {ty : Nat → Option TI} (hty : TyOk P ty) {H : Type} {enc : TypeId × Value → H} {w : World} (B : Bulk H)

/-- the data of a list of arguments -/
def shapes (ty : Nat → Option TI) (k : Nat) : List Nat → List D → Prop
  | [], xs => xs = []
  | t :: ts, xs => ∃ cs r, xs = elemT ty t cs :: r ∧ shape ty k t cs ∧ shapes ty k ts r

include hty in
theorem arg_ok {k t : Nat} (hd : deep ty k t = true) {r : Reach} {b0 : Nat} {v : Value} (hv : Value.okWide P w r b0 t v) {xs : List D} (hs : shape ty k t xs) (hr : CellsRead w v.cells.toList xs) : RD (oldCells w) w (elemT ty t xs) v := by
  cases k with
  | zero => simp [deep] at hd
  | succ k =>
    simp only [deep] at hd
    cases ht : ty t with
    | none => simp [ht] at hd
    | some i =>
      simp only [ht] at hd
      have hdesc := hty.desc ht
      simp only [elemT, ht]
      have one : i.desc.isAgg = false → v.cells = #[v] → i.size = 1 → RD (oldCells w) w (elemD i xs) v := fun h1 h2 h3 => by
        have hl := hr.1
        rw [h2] at hl
        match xs, hl with
        | [x], _ =>
          simp only [elemD, h1, Bool.false_eq_true, if_false]
          exact (hr.2 0 x v rfl (by rw [h2]; rfl)).2
        | [], hl => simp at hl
        | x :: y :: r, hl => simp at hl
      cases hi : i.desc with
      | bool =>
        have hu : P.underlying t = some .bool := by
          rw [hi] at hdesc; simp only [descOk] at hdesc; split at hdesc <;> first | assumption | cases hdesc
        obtain ⟨b, rfl⟩ := okWide_bool hu hv
        exact one (by simp [hi, TD.isAgg]) rfl (by simpa [hi] using hd)
      | int kk =>
        obtain ⟨n, rfl⟩ := okWide_int (hty.int ht hi) hv
        exact one (by simp [hi, TD.isAgg]) rfl (by simpa [hi] using hd)
      | str =>
        have hu : P.underlying t = some .string := by
          rw [hi] at hdesc; simp only [descOk] at hdesc; split at hdesc <;> first | assumption | cases hdesc
        obtain ⟨s, rfl⟩ := okWide_string hu hv
        exact one (by simp [hi, TD.isAgg]) rfl (by simpa [hi] using hd)
      | sl e s b =>
        obtain ⟨hu, _⟩ := hty.slice ht hi
        obtain ⟨a, l, c, rfl⟩ := okWide_slice hu hv
        simp only [hi, Bool.and_eq_true, beq_iff_eq] at hd
        exact one (by simp [hi, TD.isAgg]) rfl hd.1.1.1
      | st fs =>
        obtain ⟨fields, hu, _⟩ := hty.struct ht hi
        simp only [Value.okWide, hu] at hv
        obtain ⟨cs, rfl, _, _⟩ := hv
        simp only [elemD, hi, TD.isAgg, if_true]
        have hc : (Value.agg cs).cells.toList = cs.toList := rfl
        rw [hc] at hr
        refine .agg xs cs (by have := hr.1; simpa using this.symm) (fun y hy => ?_) fun j y u hy hu => (hr.2 j y u hy (by simpa using hu)).2
        obtain ⟨j, hj⟩ := List.getElem?_of_mem hy
        have hlt := (List.getElem?_eq_some_iff.1 hj).1
        have hl : xs.length = cs.toList.length := hr.1
        exact (hr.2 j y (cs.toList[j]'(by omega)) hj (by simp)).1
      | _ => simp [hi] at hd

include hty in
theorem args_shapes {b0 : Nat} : ∀ (k : Nat) (ts : List Nat) (vs : List Value) (ds : List (DataW H)) (p : List MemPlace), (ts.all fun t => deep ty k t) = true → DataW.TrodAll enc P w 0 (fun _ => true) true ts vs ds p →
    (∀ (j : Nat) t v, ts[j]? = some t → vs[j]? = some v → Value.okWide P w .any b0 t v) →
    ∃ xs, shapes ty k ts xs ∧ xs.length = vs.length ∧ (∀ (j : Nat) (x : D) (v : Value), xs[j]? = some x → vs[j]? = some v → RD (oldCells w) w x v) ∧ D.bulkL xs ≤ B.all ds
  | k, [], vs, ds, p, _, h, _ => by
    obtain ⟨rfl, rfl, rfl⟩ := trodAll_nil h
    exact ⟨[], rfl, rfl, fun j x v h => by simp at h, by simp [D.bulkL]⟩
  | k, t :: ts, vs, ds, p, hd, h, hval => by
    simp only [List.all_cons, Bool.and_eq_true] at hd
    obtain ⟨v, vs', d, ds', p1, p2, rfl, rfl, rfl, h1, h2⟩ := trodAll_cons h
    obtain ⟨xs, x1, x2, x3, x4⟩ := args_shapes k ts vs' ds' p2 hd.2 h2 (fun j t v hj hv => hval (j + 1) t v (by simpa using hj) (by simpa using hv))
    obtain ⟨fuel, hf⟩ := h1
    obtain ⟨cs, c1, c2, c3⟩ := trod_shape (enc := enc) hty B k t hd.1 fuel _ _ hf
    refine ⟨elemT ty t cs :: xs, ⟨cs, xs, rfl, c1, x1⟩, by simp [x2], fun j x u hx hu => ?_, ?_⟩
    · cases j with
      | zero => simp at hx hu; subst hx hu; exact arg_ok hty hd.1 (hval 0 t v rfl rfl) c1 c2
      | succ j => simp at hx hu; exact x3 j x u hx hu
    · simp only [D.bulkL, B.cons]
      simp only at c3
      omega

/-- the state at the start -/
theorem start_ok (w : World) (gl : List (Nat × Nat × Value)) (h1 : GlobReq.req gl) (h2 : ∀ p ∈ gl, w.cell? ⟨p.1, p.2.1, none⟩ = some p.2.2) : Inv ⟨fun _ => none, oldCells w, gl⟩ [] w :=
  ⟨fun o ob h => by simp at h, fun o o' b h => by simp at h, fun _ _ h => h, fun o b h => by simp at h, h1, fun p hp => ⟨⟨_, h2 p hp⟩, h2 p hp⟩⟩

theorem args_stay (hl : laidOutB P = true) {W W' : World} (hb : Below W.heap.size W W') : ∀ {ts : List Nat} {vs : List Value} {ds : List (DataW H)} {p : List MemPlace}, (ts.all fun t => P.readableRec t && decide (t < P.types.size)) = true →
    DataW.TrodAll enc P W 0 (fun _ => true) true ts vs ds p → (∀ x ∈ p, x.block < W.heap.size) → DataW.TrodAll enc P W' 0 (fun b => decide (b < W.heap.size)) true ts vs ds p
  | [], vs, ds, p, _, h, _ => by
    obtain ⟨rfl, rfl, rfl⟩ := trodAll_nil h
    exact trodAll_mk0
  | t :: ts, vs, ds, p, ht, h, hlt => by
    simp only [List.all_cons, Bool.and_eq_true, decide_eq_true_eq] at ht
    obtain ⟨v, vs', d, ds', p1, p2, rfl, rfl, rfl, h1, h2⟩ := trodAll_cons h
    refine trodAll_cons_mk (Below.trod hl ht.1.1 ht.1.2 h1 hb fun x hx => hlt x (List.mem_append_left _ hx)) (args_stay hl hb ?_ h2 fun x hx => hlt x (List.mem_append_right _ hx))
    simpa using ht.2

include hty in
/-- A LAW: what its code computes of data, whatever they are, is 'true'. -/
theorem law_post (hl : laidOutB P = true) {f : Nat} {fn : Func} {s : ChangeSpec} {tb : Nat} {W : World} {base : Nat} {args : Array Value} {ds gs : List (DataW H)} {before : List MemPlace} {k : Nat}
    (hk : (fn.params.toList.all fun t => deep ty k t) = true) (hrd : (fn.params.toList.all fun t => P.readableRec t && decide (t < P.types.size)) = true) (hvars : s.vars = []) (hres : fn.resultTypes = #[tb]) (htb : P.underlying tb = some .bool)
    (hval : ∀ (j : Nat) t v, fn.params[j]? = some t → args[j]? = some v → Value.okWide P W .any base t v)
    (hW : DataW.Whole enc P fn.params.toList s.vars false W args.toList ds gs before)
    (hs : (s.fn H (ds ++ gs)).results = [.lit (.bool true)] ∧ (s.fn H (ds ++ gs)).args = ds ∧ (s.fn H (ds ++ gs)).vars = [])
    (gl : List (Nat × Nat × Value)) (hreq : GlobReq.req gl) (hgl : ∀ p ∈ gl, W.cell? ⟨p.1, p.2.1, none⟩ = some p.2.2)
    (hcall : ∀ xs, shapes ty k fn.params.toList xs → D.bulkL xs ≤ B.all ds → CallsV P f (xs.map V.d) [] fun r S => r = .d (.bool true) ∧ S = []) :
    Calls P f args W fun e W' => ∃ v, e = .returned v ∧ s.post enc P fn false true false false W args v W' := by
  have hW' := hW
  obtain ⟨p, q, hA, hV, rfl, hz, hnd⟩ := hW
  obtain ⟨xs, x1, x2, x3, x4⟩ := args_shapes (enc := enc) hty B k _ _ _ _ hk hA (fun j t v hj hv => hval j t v (by simpa using hj) (by simpa using hv))
  have hargs : RArgs ⟨fun _ => none, oldCells W, gl⟩ [] W (xs.map V.d) args := by
    refine ⟨by simp [x2], fun j y u hy hu => ?_⟩
    rw [List.getElem?_map, Option.map_eq_some_iff] at hy
    obtain ⟨x, hx, rfl⟩ := hy
    exact .d _ _ (x3 j x u hx (by simpa using hu))
  refine (hcall xs x1 x4 _ W args (start_ok W gl hreq hgl) hargs).mono ?_
  rintro e W' ⟨v, r, γ', S', rfl, ⟨rfl, rfl⟩, hI', he, hr⟩
  refine ⟨v, rfl, ?_⟩
  have hbl : Below W.heap.size W W' := ⟨he.os, he.tape, he.output, he.size, fun b hb => he.rest b hb fun ⟨o, ho, _⟩ => by simp at ho⟩
  have hv : v = .bool true := by
    cases hr with
    | d _ _ hr => cases hr; rfl
  subst hv
  have hg : gs = [] ∧ q = [] := by rw [hvars] at hV; exact trodVars_none hV
  obtain ⟨rfl, rfl⟩ := hg
  obtain ⟨s1, s2, s3⟩ := hs
  refine ⟨ds, [], p ++ [], [], p, [], hW', ?_, ?_, ?_, hbl.frame _, fun h => by cases h⟩
  · rw [s1, hres]
    exact trodAll_cons_mk (shut_bool htb _) trodAll_mk0
  · rw [s2]
    exact args_stay hl hbl hrd hA fun x hx => by simpa using hW'.lt x (by simpa using hx)
  · rw [s3, hvars]
    rfl
end
end
end Go.Wm
