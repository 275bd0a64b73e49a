/-
  A part of the proof: an abstract run of the program, shown to be what the model does, and what it comes to.
-/
import Derived.Test.YtfopbbeieegfcaaVmJ
set_option linter.unusedVariables false
set_option linter.unusedSimpArgs false
set_option linter.unusedSectionVars false
set_option linter.unnecessarySimpa false
namespace Go.Vm
open Go

theorem fill_enum (sz : Nat) : ∀ (ps : List (Nat × Value)) (s : Nat) (cs : Array Value), ps.map (·.1) = (List.range ps.length).map (s + ·) → (∀ p ∈ ps, p.2.cells.size = sz) → (s + ps.length) * sz ≤ cs.size →
    ∃ r : Array Value, Instr.fill (fun i => some (i * sz, sz)) cs ps = some r ∧ r.toList = cs.toList.take (s * sz) ++ ps.flatMap (·.2.cells.toList) ++ cs.toList.drop ((s + ps.length) * sz)
  | [], s, cs, _, _, _ => ⟨cs, rfl, by simp⟩
  | (i, v) :: ps, s, cs, hi, hs, hl => by
    simp only [List.map_cons, List.length_cons, List.range_succ_eq_map, List.map_map, List.cons.injEq, Nat.add_zero] at hi
    obtain ⟨rfl, hi⟩ := hi
    have hv : v.cells.size = sz := hs (i, v) (by simp)
    have hl' : i * sz + sz + ps.length * sz ≤ cs.size := by
      have := hl
      simp only [List.length_cons] at this
      have e : (i + (ps.length + 1)) * sz = i * sz + sz + ps.length * sz := by rw [Nat.add_mul, Nat.add_mul, Nat.one_mul]; omega
      omega
    have hset := foldl_set_list (i * sz) v.cells cs (by omega)
    obtain ⟨r, h1, h2⟩ := fill_enum sz ps (i + 1) (v.cells.zipIdx.foldl (fun cs (c, j) => cs.setIfInBounds (i * sz + j) c) cs) (by
      rw [hi]
      apply List.map_congr_left
      intro a _
      simp only [Function.comp]
      omega) (fun p hp => hs p (List.mem_cons_of_mem _ hp)) (by
        have e : (v.cells.zipIdx.foldl (fun cs (c, j) => cs.setIfInBounds (i * sz + j) c) cs).size = cs.size := by
          have := congrArg List.length hset
          simp only [Array.length_toList, List.length_append, List.length_take, List.length_drop] at this
          rw [this]; omega
        rw [e]
        have : (i + 1 + ps.length) * sz = i * sz + sz + ps.length * sz := by rw [Nat.add_mul, Nat.add_mul, Nat.one_mul]
        omega)
    refine ⟨r, ?_, ?_⟩
    · unfold Instr.fill
      simp only [ne_eq, Bool.or_eq_true, decide_eq_true_eq]
      rw [if_neg (by omega)]
      exact h1
    · rw [h2, hset]
      have e0 : (cs.toList.take (i * sz)).length = i * sz := by simp; omega
      have e1 : (i + 1) * sz = i * sz + sz := by rw [Nat.add_mul, Nat.one_mul]
      have e2 : (cs.toList.take (i * sz) ++ v.cells.toList).length = (i + 1) * sz := by rw [List.length_append, e0, e1, Array.length_toList, hv]
      rw [← e2, List.take_left, List.flatMap_cons]
      simp only [List.append_assoc]
      congr 3
      have e3 : (i + 1 + ps.length) * sz = (cs.toList.take (i * sz)).length + (v.cells.toList.length + ps.length * sz) := by
        have e4 : v.cells.toList.length = sz := by rw [Array.length_toList]; exact hv
        rw [e0, e4, Nat.add_mul, Nat.add_mul, Nat.one_mul]; omega
      rw [e3, List.drop_append, List.drop_of_length_le (by omega), Nat.add_sub_cancel_left, List.nil_append, List.drop_append, List.drop_of_length_le (by omega), Nat.add_sub_cancel_left, List.nil_append, List.drop_drop]
      congr 1
      rw [hv, List.length_cons, Nat.add_mul, Nat.add_mul, Nat.one_mul]
      omega

theorem flatMap_get {sz : Nat} : ∀ (us : List Value) (_ : ∀ u ∈ us, u.cells.size = sz) (i j : Nat), j < sz → (us.flatMap (·.cells.toList))[i * sz + j]? = (us[i]?).bind fun u => u.cells[j]?
  | [], _, i, j, _ => by simp
  | u :: us, h, i, j, hj => by
    have hu := h u (by simp)
    rw [List.flatMap_cons]
    cases i with
    | zero => rw [List.getElem?_append_left (by rw [Array.length_toList]; omega)]; simp
    | succ i =>
      rw [List.getElem?_append_right (by rw [Array.length_toList, Nat.add_mul, Nat.one_mul]; omega)]
      rw [Array.length_toList, hu, show (i + 1) * sz + j - sz = i * sz + j by rw [Nat.add_mul, Nat.one_mul]; omega]
      simpa using flatMap_get us (fun u hu => h u (List.mem_cons_of_mem _ hu)) i j hj

section
variable {P : Program} {ty : Nat → Option TI} (hty : TyOk P ty) {γ : Gh} {S : St} {w : World}
include hty

theorem buildSliceV_ok (hI : Inv γ S w) {E : Env} (hE : E.ty = ty) {t len : Nat} {parts : List (Nat × V)} {ps : Array (Nat × Value)} {y : V} (h : buildSliceV E t len parts = some y) (hm : ps.toList.map (·.1) = parts.map (·.1))
    (hr : ∀ (j : Nat) (x : Nat × V) (u : Nat × Value), parts[j]? = some x → ps.toList[j]? = some u → RV γ S w x.2 u.2) :
    ∃ u γ' w', (Instr.buildSlice t len ps).run P w = .ok u w' ∧ Inv γ' S w' ∧ Ext S.length γ S w γ' S w' ∧ RV γ' S w' y u := by
  subst hE
  unfold buildSliceV Env.elem at h
  cases ht : E.ty t with
  | none => simp [ht] at h
  | some ti =>
    simp only [ht, Option.bind_some] at h
    cases hd : ti.desc <;> rw [hd] at h <;> simp only [Option.bind_none, Option.bind_some] at h <;> first | (cases h; done) | skip
    rename_i e es eb
    cases he : E.ty e with
    | none => simp [he] at h
    | some ei =>
      simp only [he, Option.bind_some] at h
      cases hx : asDs (parts.map (·.2)) with
      | none => simp [hx] at h
      | some xs =>
        simp only [hx, Option.bind_some] at h
        split at h <;> first | (cases h; done) | skip
        split at h <;> first | (cases h; done) | skip
        split at h <;> first | (cases h; done) | skip
        split at h <;> first | (cases h; done) | skip
        rename_i hrange hall hpos hbig
        cases h
        obtain ⟨hu, info, hinfo, hsz, _⟩ := hty.slice ht hd
        have hs := hty.sliceSize ht hd w
        obtain ⟨info', z, hi', hs', _, hz', _, _⟩ := hty.info he
        rw [hinfo] at hi'
        cases hi'
        obtain ⟨hxl, hxg⟩ := asDs_ok hx
        simp only [List.length_map] at hxl
        have hlen : parts.length = len := by have := congrArg List.length hrange; simpa using this
        have hpl : ps.toList.length = len := by have := congrArg List.length hm; simp only [List.length_map] at this; omega
        -- the parts' values
        have hval : ∀ (i : Nat) (x : D) (u : Value), xs[i]? = some x → (ps.toList.map (·.2))[i]? = some u → RD γ.fz w x u := fun i x u hxi hui => by
          obtain ⟨v, hv1, hv2⟩ := hxg i x hxi
          simp only [List.getElem?_map, Option.map_eq_some_iff] at hv1 hui
          obtain ⟨p, hp, rfl⟩ := hv1
          obtain ⟨q, hq, rfl⟩ := hui
          exact asD_ok hv2 (hr i p q hp hq)
        have hsize : ∀ p ∈ ps.toList, p.2.cells.size = es := fun p hp => by
          obtain ⟨i, hi⟩ := List.getElem?_of_mem hp
          have hil := (List.getElem?_eq_some_iff.1 hi).1
          have hxi : xs[i]? = some (xs[i]'(by omega)) := List.getElem?_eq_getElem _
          have := (hval i _ p.2 hxi (by simp [hi])).cells_size
          rw [this]
          have hmem : xs[i]'(by omega) ∈ xs := List.getElem_mem _
          have := List.all_eq_true.1 hall _ hmem
          simpa using this
        obtain ⟨r, hr1, hr2⟩ := fill_enum es ps.toList 0 ((Array.range (len * es)).map (fun i => (if len * es = 0 then #[] else z.cells)[i % (if len * es = 0 then (#[] : Array Value) else z.cells).size]!)) (by
            rw [hm, hrange, hpl]; try simp) hsize (by simp [hpl])
        simp only [Nat.zero_mul, List.take_zero, List.nil_append, Nat.zero_add, hpl] at hr2
        rw [List.drop_of_length_le (by simp), List.append_nil] at hr2
        have hrs : r.size = len * es := by
          have h1 := congrArg List.length hr2
          rw [Array.length_toList] at h1
          rw [h1, List.length_flatMap]
          have : ps.toList.map (fun p => p.2.cells.toList.length) = List.replicate len es := by
            rw [← hpl]
            rw [← List.map_const']
            apply List.map_congr_left
            intro p hp
            rw [Array.length_toList]
            exact hsize p hp
          rw [this]
          simp
        have hcell : ∀ (i j : Nat) (u : Value), (ps.toList.map (·.2))[i]? = some u → j < es → r[i * es + j]? = u.cells[j]? := fun i j u hui hj => by
          have := flatMap_get (ps.toList.map (·.2)) (fun u hu => by
            obtain ⟨p, hp, rfl⟩ := List.mem_map.1 hu
            exact hsize p hp) i j hj
          rw [hui] at this
          rw [← Array.getElem?_toList, hr2]
          rw [List.flatMap_map] at this
          exact this
        obtain ⟨hInv, hExt⟩ := new_frozen hI r e r.size (Nat.le_refl _)
        have hxl' : xs.length = len := by omega
        refine ⟨.slice (some ⟨w.heap.size, 0, none⟩) xs.length xs.length, _, _, ?_, hInv, hExt, .fsl _ _ _ _ ?_⟩
        · have hbig' : ¬ (16777216 < len * es) := by omega
          by_cases h0 : len * es = 0
          · simp only [h0, if_true] at hr1
            simp only [Array.range_zero', List.map_toArray, List.map_nil] at hr1
            simp [Instr.buildSlice, run_underlying hu, hs, h0, Array.range_zero', hr1, newRow, hxl']
          · simp only [h0, if_false] at hr1
            simp [Instr.buildSlice, run_underlying hu, hs, hbig', h0, zeroValue, typeInfo, hinfo, hz', hr1, newRow, hxl']
        · have hu' : ∀ (i : Nat), i < xs.length → ∃ u, (ps.toList.map (·.2))[i]? = some u := fun i hi => ⟨_, List.getElem?_eq_getElem (by rw [List.length_map]; omega)⟩
          refine .sl es xs ⟨w.heap.size, 0, none⟩ _ (fun i j => r.getD (i * es + j) undef) (.inr rfl) (Nat.le_refl _) ?_ (fun x hx => ?_) (fun i j hi hj => ⟨.inr ⟨rfl, ?_⟩, ?_⟩) (fun i j x y hx hy => ?_)
          · have : maxLen = 9223372036854775807 := by decide
            have : len * 1 ≤ len * es := Nat.mul_le_mul_left _ hpos
            omega
          · obtain ⟨i, hi⟩ := List.getElem?_of_mem hx
            obtain ⟨u, hu⟩ := hu' i (List.getElem?_eq_some_iff.1 hi).1
            refine ⟨by have := List.all_eq_true.1 hall _ hx; simpa using this, fun y hy => ?_⟩
            obtain ⟨j, hj⟩ := List.getElem?_of_mem hy
            exact D.cells_one_of_mem (hval i x u hi hu) hj
          · have := idx_lt hi hj
            rw [hxl'] at this
            show 0 + i * es + j < r.size
            omega
          · have := idx_lt hi hj
            rw [hxl'] at this
            simp only [Nat.zero_add]
            rw [World.cell?_alloc_new]
            simp [hrs, this]
          · have hi := (List.getElem?_eq_some_iff.1 hx).1
            obtain ⟨u, hu⟩ := hu' i hi
            have hrd := hval i x u hx hu
            have hj : j < es := by
              have h1 := (List.getElem?_eq_some_iff.1 hy).1
              have h2 := List.all_eq_true.1 hall _ (List.mem_of_getElem? hx)
              simp at h2
              omega
            have hc := hcell i j u hu hj
            have hsz2 := hrd.cells_size
            have h1 := (List.getElem?_eq_some_iff.1 hy).1
            have hu2 : u.cells[j]? = some (u.cells[j]'(by omega)) := Array.getElem?_eq_getElem _
            rw [hu2] at hc
            have := hrd.cells_at hy hu2
            simp only [Array.getD_eq_getD_getElem?, hc, Option.getD_some]
            exact this.mono hExt.fz hExt.cell

theorem appendV_ok (hI : Inv γ S w) {at_ : Nat} (hdead : S[at_]? = some .dead) (hnone : γ.mu at_ = none) {E : Env} (hE : E.ty = ty) {t tr : Nat} {x y r : V} {S' : Nat × AObj} {v u : Value} (h : appendV E at_ t S x y = some (r, S')) (hx : RV γ S w x v) (hy : RV γ S w y u) :
    ∃ z γ' w', (Builtin.append_ #[t, t] tr #[v, u]).run P w = .ok z w' ∧ Inv γ' (S.set S'.1 S'.2) w' ∧ Ext S.length γ S w γ' (S.set S'.1 S'.2) w' ∧ RV γ' (S.set S'.1 S'.2) w' r z := by
  subst hE
  unfold appendV Env.elem at h
  cases ht : E.ty t with
  | none => simp [ht] at h
  | some ti =>
    simp only [ht, Option.bind_some] at h
    cases hd : ti.desc <;> rw [hd] at h <;> simp only [Option.bind_none, Option.bind_some] at h <;> first | (cases h; done) | skip
    rename_i e es eb
    cases he : E.ty e with
    | none => simp [he] at h
    | some ei =>
      simp only [he, Option.bind_some] at h
      cases hs : sliceOf y with
      | none => simp [hs] at h
      | some q =>
        obtain ⟨nn', sz', ys⟩ := q
        simp only [hs, Option.bind_some] at h
        split at h <;> first | (cases h; done) | skip
        split at h <;> first | (cases h; done) | skip
        rename_i hby hsame
        obtain ⟨hu, info, hinfo, hsz, hbytes⟩ := hty.slice ht hd
        obtain ⟨info', z, hi', hs', _, hz', _, hzs⟩ := hty.info he
        rw [hinfo] at hi'
        cases hi'
        have hzs' : z.cells.size = info.size := by omega
        have hmx : maxLen = 9223372036854775807 := by decide
        have hroom : ∀ n, n ≤ 2147483648 → n ≤ maxLen ∧ n * info.bytes ≤ 140737488355328 := fun n hn => ⟨by omega, by
          have h1 : n * info.bytes ≤ 2147483648 * 65536 := Nat.mul_le_mul hn (by omega)
          omega⟩
        have hyd : RD γ.fz w (.sl nn' es ys) u := by
          have hyd := sliceOf_ok hs hy
          simp only [Bool.or_eq_true, beq_iff_eq, List.isEmpty_iff] at hsame
          rcases hsame with rfl | rfl
          · exact hyd
          · rcases hyd.sl_inv with ⟨rfl, _, rfl⟩ | ⟨rfl, a, cap, vs, rfl, _, hcap, hmax, _⟩
            · exact .nils es
            · exact .sl es [] a cap vs (.inl rfl) hcap hmax (fun x hx => by cases hx) (fun i j hi => by simp at hi) (fun i j x y hx => by simp at hx)
        split at h
        · rename_i o nn sz xs
          split at h <;> first | (cases h; done) | skip
          rename_i hsz1
          split at h <;> first | (cases h; done) | skip
          rename_i e' f sz'' hS
          split at h <;> first | (cases h; done) | skip
          split at h <;> first | (cases h; done) | skip
          split at h <;> first | (cases h; done) | skip
          split at h <;> first | (cases h; done) | skip
          rename_i g1 g2 g3 hle
          cases h
          subst g1 g2 g3 hsz1
          obtain ⟨h63, hb⟩ := hroom _ hle
          exact append_own (ty := tr) hu hinfo hz' hzs' hI hsz hS hx hyd h63 hb
        · rename_i nn sz xs
          split at h <;> first | (cases h; done) | skip
          rename_i hsz1
          split at h <;> first | (cases h; done) | skip
          rename_i hle
          cases h
          subst hsz1
          obtain ⟨h63, hb⟩ := hroom _ hle
          cases hx with
          | fsl _ _ _ a hd => exact append_full (ty := tr) hu hinfo hz' hzs' hI hdead hnone hsz hd ⟨a, rfl⟩ hyd h63 hb
        · split at h <;> first | (cases h; done) | skip
          rename_i hle
          cases h
          obtain ⟨h63, hb⟩ := hroom _ hle
          cases hx with
          | d _ _ hd =>
            cases hd
            have := append_full (ty := tr) (xs := []) hu hinfo hz' hzs' hI hdead hnone hsz (RD.nils es) ⟨none, rfl⟩ hyd (by simpa using h63) (by simpa using hb)
            simpa using this
        · cases h
theorem appendV_own_ok (hI : Inv γ S w) {at_ : Nat} {E : Env} (hE : E.ty = ty) {t tr p p' : Nat} {q : Bool} {zs : List D} {y r : V} {S' : Nat × AObj} {v u : Value} (h : appendV E at_ t S (.own p q p' zs) y = some (r, S')) (hx : RV γ S w (.own p q p' zs) v) (hy : RV γ S w y u) :
    ∃ z γ' w', (Builtin.append_ #[t, t] tr #[v, u]).run P w = .ok z w' ∧ Inv γ' (S.set S'.1 S'.2) w' ∧ Ext S.length γ S w γ' (S.set S'.1 S'.2) w' ∧ RV γ' (S.set S'.1 S'.2) w' r z := by
  subst hE
  unfold appendV Env.elem at h
  cases ht : E.ty t with
  | none => simp [ht] at h
  | some ti =>
    simp only [ht, Option.bind_some] at h
    cases hd : ti.desc <;> rw [hd] at h <;> simp only [Option.bind_none, Option.bind_some] at h <;> first | (cases h; done) | skip
    rename_i e es eb
    cases he : E.ty e with
    | none => simp [he] at h
    | some ei =>
      simp only [he, Option.bind_some] at h
      cases hs : sliceOf y with
      | none => simp [hs] at h
      | some q =>
        obtain ⟨nn', sz', ys⟩ := q
        simp only [hs, Option.bind_some] at h
        split at h <;> first | (cases h; done) | skip
        split at h <;> first | (cases h; done) | skip
        rename_i hby hsame
        obtain ⟨hu, info, hinfo, hsz, hbytes⟩ := hty.slice ht hd
        obtain ⟨info', z, hi', hs', _, hz', _, hzs⟩ := hty.info he
        rw [hinfo] at hi'
        cases hi'
        have hzs' : z.cells.size = info.size := by omega
        have hmx : maxLen = 9223372036854775807 := by decide
        have hroom : ∀ n, n ≤ 2147483648 → n ≤ maxLen ∧ n * info.bytes ≤ 140737488355328 := fun n hn => ⟨by omega, by
          have h1 : n * info.bytes ≤ 2147483648 * 65536 := Nat.mul_le_mul hn (by omega)
          omega⟩
        have hyd : RD γ.fz w (.sl nn' es ys) u := by
          have hyd := sliceOf_ok hs hy
          simp only [Bool.or_eq_true, beq_iff_eq, List.isEmpty_iff] at hsame
          rcases hsame with rfl | rfl
          · exact hyd
          · rcases hyd.sl_inv with ⟨rfl, _, rfl⟩ | ⟨rfl, a, cap, vs, rfl, _, hcap, hmax, _⟩
            · exact .nils es
            · exact .sl es [] a cap vs (.inl rfl) hcap hmax (fun x hx => by cases hx) (fun i j hi => by simp at hi) (fun i j x y hx => by simp at hx)
        split at h <;> first | (cases h; done) | skip
        rename_i hsz1
        split at h <;> first | (cases h; done) | skip
        rename_i e' f sz'' hS
        split at h <;> first | (cases h; done) | skip
        split at h <;> first | (cases h; done) | skip
        split at h <;> first | (cases h; done) | skip
        split at h <;> first | (cases h; done) | skip
        rename_i g1 g2 g3 hle
        cases h
        subst g1 g2 g3 hsz1
        obtain ⟨h63, hb⟩ := hroom _ hle
        exact append_own (ty := tr) hu hinfo hz' hzs' hI hsz hS hx hyd h63 hb

end
end Go.Vm
