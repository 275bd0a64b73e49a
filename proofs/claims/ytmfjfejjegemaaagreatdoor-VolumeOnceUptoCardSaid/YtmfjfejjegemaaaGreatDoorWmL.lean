/-
  A part of the proof: an abstract run of the program, shown to be what the model does, and what it comes to.
-/
import Derived.Test.YtmfjfejjegemaaaGreatDoorWmK
set_option linter.unusedVariables false
set_option linter.unusedSimpArgs false
set_option linter.unnecessarySimpa false
set_option linter.defProp false
set_option linter.unusedSectionVars false
namespace Go.Wm
open Go
variable [GlobReq]

section
variable {P : Program} {ty : Nat → Option TI} (hty : TyOk P ty) {γ : Gh} {S : St} {w : World}
include hty
theorem buildSliceV_ok (hI : Inv γ S w) {at_ : Nat} {E : Env} (hat : E.rows = true → S[at_]? = some .dead ∧ γ.mu at_ = none) (hE : E.ty = ty) {t len : Nat} {parts : List (Nat × V)} {ps : Array (Nat × Value)} {y : V} {W : List (Nat × AObj)} (h : buildSliceV E at_ t len parts = some (y, W)) (hm : ps.toList.map (·.1) = parts.map (·.1))
    (hr : ∀ (j : Nat) (x : Nat × V) (u : Nat × Value), parts[j]? = some x → ps.toList[j]? = some u → RV γ S w x.2 u.2) :
    ∃ u γ' w', (Instr.buildSlice t len ps).run P w = .ok u w' ∧ Inv γ' (applyW S W) w' ∧ Ext S.length γ S w γ' (applyW S W) w' ∧ RV γ' (applyW S W) w' y u := by
  subst hE
  unfold buildSliceV Env.elem at h
  cases ht : E.ty t with
  | none => simp [ht] at h
  | some ti =>
    simp only [ht, Option.bind_some] at h
    cases hd : ti.desc <;> rw [hd] at h <;> simp only [Option.bind_none, Option.bind_some] at h <;> first | (cases h; done) | skip
    rename_i e es eb
    cases he : E.ty e with
    | none => simp [he] at h
    | some ei =>
      simp only [he, Option.bind_some] at h
      cases hx : asDs (parts.map (·.2)) with
      | none => simp [hx] at h
      | some xs =>
        simp only [hx, Option.bind_some] at h
        split at h <;> first | (cases h; done) | skip
        split at h <;> first | (cases h; done) | skip
        split at h <;> first | (cases h; done) | skip
        split at h <;> first | (cases h; done) | skip
        rename_i hrange hall hpos hbig
        obtain ⟨hu, info, hinfo, hsz, _⟩ := hty.slice ht hd
        have hs := hty.sliceSize ht hd w
        obtain ⟨info', z, hi', hs', _, hz', _, _⟩ := hty.info he
        rw [hinfo] at hi'
        cases hi'
        obtain ⟨hxl, hxg⟩ := asDs_ok γ S w _ _ hx
        simp only [List.length_map] at hxl
        have hlen : parts.length = len := by have := congrArg List.length hrange; simpa using this
        have hpl : ps.toList.length = len := by have := congrArg List.length hm; simp only [List.length_map] at this; omega
        -- the parts' values
        have hval : ∀ (i : Nat) (x : D) (u : Value), xs[i]? = some x → (ps.toList.map (·.2))[i]? = some u → RD γ.fz w x u := fun i x u hxi hui => by
          have hil := (List.getElem?_eq_some_iff.1 hxi).1
          have hp : parts[i]? = some (parts[i]'(by omega)) := List.getElem?_eq_getElem _
          simp only [List.getElem?_map, Option.map_eq_some_iff] at hui
          obtain ⟨q, hq, rfl⟩ := hui
          exact hxg i _ x q.2 (by rw [List.getElem?_map, hp]; rfl) hxi (hr i _ q hp hq)
        have hsize : ∀ p ∈ ps.toList, p.2.cells.size = es := fun p hp => by
          obtain ⟨i, hi⟩ := List.getElem?_of_mem hp
          have hil := (List.getElem?_eq_some_iff.1 hi).1
          have hxi : xs[i]? = some (xs[i]'(by omega)) := List.getElem?_eq_getElem _
          have := (hval i _ p.2 hxi (by simp [hi])).cells_size
          rw [this]
          have hmem : xs[i]'(by omega) ∈ xs := List.getElem_mem _
          have := List.all_eq_true.1 hall _ hmem
          simpa using this
        obtain ⟨r, hr1, hr2⟩ := fill_enum es ps.toList 0 ((Array.range (len * es)).map (fun i => (if len * es = 0 then #[] else z.cells)[i % (if len * es = 0 then (#[] : Array Value) else z.cells).size]!)) (by
            rw [hm, hrange, hpl]; try simp) hsize (by simp [hpl])
        simp only [Nat.zero_mul, List.take_zero, List.nil_append, Nat.zero_add, hpl] at hr2
        rw [List.drop_of_length_le (by simp), List.append_nil] at hr2
        have hrs : r.size = len * es := by
          have h1 := congrArg List.length hr2
          rw [Array.length_toList] at h1
          rw [h1, List.length_flatMap]
          have : ps.toList.map (fun p => p.2.cells.toList.length) = List.replicate len es := by
            rw [← hpl]
            rw [← List.map_const']
            apply List.map_congr_left
            intro p hp
            rw [Array.length_toList]
            exact hsize p hp
          rw [this]
          simp
        have hcell : ∀ (i j : Nat) (u : Value), (ps.toList.map (·.2))[i]? = some u → j < es → r[i * es + j]? = u.cells[j]? := fun i j u hui hj => by
          have := flatMap_get (ps.toList.map (·.2)) (fun u hu => by
            obtain ⟨p, hp, rfl⟩ := List.mem_map.1 hu
            exact hsize p hp) i j hj
          rw [hui] at this
          rw [← Array.getElem?_toList, hr2]
          rw [List.flatMap_map] at this
          exact this
        have hxl' : xs.length = len := by omega
        have hrun : (Instr.buildSlice t len ps).run P w = .ok (.slice (some ⟨w.heap.size, 0, none⟩) xs.length xs.length) (w.alloc (.cells r e)) := by
          have hbig' : ¬ (16777216 < len * es) := by omega
          by_cases h0 : len * es = 0
          · simp only [h0, if_true] at hr1
            simp only [Array.range_zero', List.map_toArray, List.map_nil] at hr1
            simp [Instr.buildSlice, run_underlying hu, hs, h0, Array.range_zero', hr1, newRow, hxl']
          · simp only [h0, if_false] at hr1
            simp [Instr.buildSlice, run_underlying hu, hs, hbig', h0, zeroValue, typeInfo, hinfo, hz', hr1, newRow, hxl']
        have hu' : ∀ (i : Nat), i < xs.length → ∃ u, (ps.toList.map (·.2))[i]? = some u := fun i hi => ⟨_, List.getElem?_eq_getElem (by rw [List.length_map]; omega)⟩
        have hszs : ∀ x ∈ xs, x.cells.length = es ∧ ∀ y ∈ x.cells, y.one = true := fun x hx => by
          obtain ⟨i, hi⟩ := List.getElem?_of_mem hx
          obtain ⟨u, hu⟩ := hu' i (List.getElem?_eq_some_iff.1 hi).1
          refine ⟨by have := List.all_eq_true.1 hall _ hx; simpa using this, fun y hy => ?_⟩
          obtain ⟨j, hj⟩ := List.getElem?_of_mem hy
          exact D.cells_one_of_mem (hval i x u hi hu) hj
        have hrds : ∀ (i j : Nat) (x y : D), xs[i]? = some x → x.cells[j]? = some y → RD γ.fz w y (r.getD (i * es + j) undef) := fun i j x y hx hy => by
          have hi := (List.getElem?_eq_some_iff.1 hx).1
          obtain ⟨u, hu⟩ := hu' i hi
          have hrd := hval i x u hx hu
          have hj : j < es := by
            have h1 := (List.getElem?_eq_some_iff.1 hy).1
            have h2 := List.all_eq_true.1 hall _ (List.mem_of_getElem? hx)
            simp at h2
            omega
          have hc := hcell i j u hu hj
          have hsz2 := hrd.cells_size
          have h1 := (List.getElem?_eq_some_iff.1 hy).1
          have hu2 : u.cells[j]? = some (u.cells[j]'(by omega)) := Array.getElem?_eq_getElem _
          rw [hu2] at hc
          have := hrd.cells_at hy hu2
          simp only [Array.getD_eq_getD_getElem?, hc, Option.getD_some]
          exact this
        have hmax : xs.length ≤ maxLen := by
          have : maxLen = 9223372036854775807 := by decide
          have : len * 1 ≤ len * es := Nat.mul_le_mul_left _ hpos
          omega
        have hflat := flat_of (n := xs.length) (sz := es) (r := r) (by rw [hrs, hxl'])
        cases hrw : E.rows with
        | true =>
          rw [hrw] at h
          simp only [if_true, Option.some.injEq, Prod.mk.injEq] at h
          obtain ⟨rfl, rfl⟩ := h
          obtain ⟨hdead, hnone⟩ := hat hrw
          obtain ⟨γ', g1, g2, g3⟩ := new_list (γ := γ) (S := S) (w := w) hI hdead (.inl ⟨rfl, hnone⟩) true (e := e) (sz := es) (cap := xs.length) (zs := xs) (vs := fun i j => r.getD (i * es + j) undef) (rest := []) (fun _ => rfl) (fun _ _ _ h => by cases h)
            (w0 := w) (.inl rfl) (Nat.le_refl _) hmax hszs hrds (by rw [hflat]; simp [hrs, hxl'])
          rw [hflat] at g1 g2 g3
          simp only [newList, if_true, List.append_nil, Array.toArray_toList] at g1 g2 g3
          rw [hxl'] at g3 hrun
          exact ⟨_, γ', _, hrun, g1, g2, g3⟩
        | false =>
          rw [hrw] at h
          simp only [Bool.false_eq_true, if_false, Option.some.injEq, Prod.mk.injEq] at h
          obtain ⟨rfl, rfl⟩ := h
          obtain ⟨hInv, hExt⟩ := new_frozen hI r e r.size (Nat.le_refl _)
          refine ⟨_, _, _, hrun, hInv, hExt, .fsl _ _ ?_⟩
          refine RD.sl_mk (vs := fun i j => r.getD (i * es + j) undef) (Nat.le_refl _) hmax hszs (fun k u hk => ?_) (fun i j x y hx hy => (hrds i j x y hx hy).mono hExt.fz hExt.cell)
          rw [hflat] at hk
          have hkl := (List.getElem?_eq_some_iff.1 hk).1
          rw [Nat.zero_add]
          refine ⟨.inr ⟨rfl, by simpa using hkl⟩, ?_⟩
          rw [World.cell?_alloc_new]
          simpa using hk

theorem appendV_ok (hI : Inv γ S w) {at_ : Nat} {E : Env} (hE : E.ty = ty) {t tr : Nat} {x y r : V} {W : List (Nat × AObj)} (hdead : (∀ o zs, x ≠ .own o zs) → S[at_]? = some .dead ∧ γ.mu at_ = none) {v u : Value} (h : appendV E at_ t S x y = some (r, W)) (hx : RV γ S w x v) (hy : RV γ S w y u) :
    ∃ z γ' w', (Builtin.append_ #[t, t] tr #[v, u]).run P w = .ok z w' ∧ Inv γ' (applyW S W) w' ∧ Ext S.length γ S w γ' (applyW S W) w' ∧ RV γ' (applyW S W) w' r z := by
  subst hE
  unfold appendV Env.elem at h
  cases ht : E.ty t with
  | none => simp [ht] at h
  | some ti =>
    simp only [ht, Option.bind_some] at h
    cases hd : ti.desc <;> rw [hd] at h <;> simp only [Option.bind_none, Option.bind_some] at h <;> first | (cases h; done) | skip
    rename_i e es eb
    cases he : E.ty e with
    | none => simp [he] at h
    | some ei =>
      simp only [he, Option.bind_some] at h
      cases hs : sliceOf S y with
      | none => simp [hs] at h
      | some ys =>
        simp only [hs, Option.bind_some] at h
        split at h <;> first | (cases h; done) | skip
        split at h <;> first | (cases h; done) | skip
        rename_i hby hsame
        obtain ⟨hu, info, hinfo, hsz, hbytes⟩ := hty.slice ht hd
        obtain ⟨info', z, hi', hs', _, hz', _, hzs⟩ := hty.info he
        rw [hinfo] at hi'
        cases hi'
        have hzs' : z.cells.size = info.size := by omega
        have hmx : maxLen = 9223372036854775807 := by decide
        have hroom : ∀ n, n ≤ 2147483648 → n ≤ maxLen ∧ n * info.bytes ≤ 140737488355328 := fun n hn => ⟨by omega, by
          have h1 : n * info.bytes ≤ 2147483648 * 65536 := Nat.mul_le_mul hn (by omega)
          omega⟩
        have hyd : Reads γ.fz w ys u := sliceOf_reads hI hs hy
        have hysz : ∀ y ∈ ys, y.cells.length = es := fun y hy => by simpa using List.all_eq_true.1 hsame y hy
        split at h
        · rename_i o xs
          split at h <;> first | (cases h; done) | skip
          rename_i e' f sz'' hS
          split at h <;> first | (cases h; done) | skip
          split at h <;> first | (cases h; done) | skip
          split at h <;> first | (cases h; done) | skip
          split at h <;> first | (cases h; done) | skip
          rename_i g1 g2 g3 hle
          cases h
          subst g1 g2 g3
          obtain ⟨h63, hb⟩ := hroom _ hle
          exact append_own (ty := tr) hu hinfo hz' hzs' hI hsz hS hx hysz hyd h63 hb
        · split at h <;> first | (cases h; done) | skip
          rename_i hle
          obtain ⟨rfl, rfl⟩ : r = (newList E.rows at_ e es ys).1 ∧ W = (newList E.rows at_ e es ys).2 := by
            have := Option.some.inj h
            rw [this]; exact ⟨rfl, rfl⟩
          obtain ⟨h63, hb⟩ := hroom _ hle
          obtain ⟨k1, k2⟩ := hdead (fun o zs h => by cases h)
          cases hx
          have := append_full (ty := tr) (xs := []) hu hinfo hz' hzs' hI k1 k2 E.rows (a := none) hsz RD.nils.reads (fun _ _ => RD.nils) (fun _ _ => rfl) (fun _ => rfl) (fun x hx => by cases hx) hysz hyd (by simpa using h63) (by simpa using hb)
          simpa using this
        · rename_i o lo n
          split at h <;> first | (cases h; done) | skip
          rename_i hne
          rw [Option.bind_eq_some_iff] at h
          obtain ⟨⟨e0, s0, xs0⟩, hrow, h⟩ := h
          simp only at h
          split at h <;> first | (cases h; done) | skip
          split at h <;> first | (cases h; done) | skip
          split at h <;> first | (cases h; done) | skip
          rename_i _ hxa hle
          obtain ⟨rfl, rfl⟩ : r = (newList E.rows at_ e es ((xs0.drop lo).take n ++ ys)).1 ∧ W = (newList E.rows at_ e es ((xs0.drop lo).take n ++ ys)).2 := by
            have := Option.some.inj h
            rw [this]; exact ⟨rfl, rfl⟩
          obtain ⟨h63, hb⟩ := hroom _ hle
          obtain ⟨k1, k2⟩ := hdead (fun o zs h => by cases h)
          have hxsz : ∀ y ∈ (xs0.drop lo).take n, y.cells.length = es := fun y hy => by simpa using List.all_eq_true.1 hxa y hy
          have hye : ys ≠ [] := fun h => hne (by rw [h]; rfl)
          cases hx with
          | csl0 _ _ a =>
            have := append_full (ty := tr) (xs := []) hu hinfo hz' hzs' hI k1 k2 E.rows (a := a) hsz (⟨0, fun _ _ => undef, by simp, by simp, .inl ⟨rfl, _, _, rfl⟩⟩) (fun h => absurd h hye) (fun h => absurd h hye) (fun _ => rfl) (fun x hx => by cases hx) hysz hyd (by simpa using h63) (by simpa using hb)
            simpa using this
          | csl _ _ _ cap a hsl =>
            have hlen : ((xs0.drop lo).take n).length = n := by
              obtain ⟨hle, _⟩ := hsl.sl_row hrow
              simp; omega
            have hrd := (sl_reads hI hrow hsl).cap (c' := n)
            have hnn : a = none → (xs0.drop lo).take n = [] := fun ha => by
              subst ha
              obtain ⟨_, ⟨h0, _⟩ | ⟨b, cp, cur, _, h, _⟩⟩ := hsl.sl_row hrow
              · subst h0; simp
              · cases h
            generalize (xs0.drop lo).take n = xs at *
            subst hlen
            exact append_full (ty := tr) hu hinfo hz' hzs' hI k1 k2 E.rows (a := a) hsz hrd (fun h => absurd h hye) (fun h => absurd h hye) hnn hxsz hysz hyd h63 hb
        · rename_i xs
          split at h <;> first | (cases h; done) | skip
          split at h <;> first | (cases h; done) | skip
          split at h <;> first | (cases h; done) | skip
          rename_i hrw hxa hle
          obtain ⟨rfl, rfl⟩ : r = (newList E.rows at_ e es (xs ++ ys)).1 ∧ W = (newList E.rows at_ e es (xs ++ ys)).2 := by
            have := Option.some.inj h
            rw [this]; exact ⟨rfl, rfl⟩
          obtain ⟨h63, hb⟩ := hroom _ hle
          obtain ⟨k1, k2⟩ := hdead (fun o zs h => by cases h)
          have hxsz : ∀ y ∈ xs, y.cells.length = es := fun y hy => by simpa using List.all_eq_true.1 hxa y hy
          cases hx with
          | fsl _ a hd =>
            refine append_full (ty := tr) hu hinfo hz' hzs' hI k1 k2 E.rows (a := a) hsz hd.reads (fun _ _ => hd) (fun hye hr => ?_) (fun ha => ?_) hxsz hysz hyd h63 hb
            · subst hye; rw [hr] at hrw; simp at hrw
            · rcases hd.sl_inv with ⟨h, _⟩ | ⟨_, _, _, _, h, _⟩
              · exact h
              · subst ha; cases h
        · rename_i o lo n
          split at h <;> first | (cases h; done) | skip
          rename_i e' sz'' xs hS
          split at h <;> first | (cases h; done) | skip
          split at h <;> first | (cases h; done) | skip
          split at h <;> first | (cases h; done) | skip
          split at h <;> first | (cases h; done) | skip
          split at h <;> first | (cases h; done) | skip
          rename_i g1 g2 g3 g4 hle
          cases h
          subst g1 g2 g3 g4
          obtain ⟨h63, hb⟩ := hroom _ hle
          obtain ⟨k1, k2⟩ := hdead (fun o zs h => by cases h)
          exact append_row (ty := tr) hu hinfo hz' hzs' hI hsz hS k1 k2 hx hysz hyd h63 hb
        · cases h

/-- the zero of a kind -/
theorem zeroD_ok {t : Nat} {i : TI} (ht : ty t = some i) {zd : D} (h : zeroD i = some zd) : ∃ info z, P.info? t = some info ∧ info.size = i.size ∧ info.bytes = i.bytes ∧ info.zero = some z ∧ z.cells.size = i.size ∧ zd.cells.length = i.size ∧
    (∀ y ∈ zd.cells, y.one = true) ∧ ∀ (fz : Nat → Nat → Prop) (w : World) (j : Nat) (y : D) (u : Value), zd.cells[j]? = some y → z.cells[j]? = some u → RD fz w y u := by
  obtain ⟨info, z, h1, h2, h3, h4, h5, h6, h7⟩ := hty.info' ht
  refine ⟨info, z, h1, h2, h3, h4, h6, ?_⟩
  have hv := fun (fz : Nat → Nat → Prop) (w : World) => RV.of_areVals { mu := fun _ => none, fz := fz, gl := [] } [] w _ _ h5
  unfold zeroD at h
  cases hag : i.desc.isAgg with
  | true =>
    simp only [hag, if_true, Option.map_eq_some_iff] at h
    obtain ⟨ds, h, rfl⟩ := h
    have hd := fun (fz : Nat → Nat → Prop) (w : World) => asDs_ok { mu := fun _ => none, fz := fz, gl := [] } [] w _ _ h
    have hl : ds.length = i.zero.length := (hd (fun _ _ => False) default).1
    have hl2 : z.cells.toList.length = i.zero.length := (hv (fun _ _ => False) default).1
    have key : ∀ (fz : Nat → Nat → Prop) (w : World) (j : Nat) (y : D) (u : Value), ds[j]? = some y → z.cells[j]? = some u → RD fz w y u ∧ u.oneCell' = true := fun fz w j y u hy hu => by
      have hj := (List.getElem?_eq_some_iff.1 hy).1
      have hz : i.zero[j]? = some (i.zero[j]'(by omega)) := List.getElem?_eq_getElem _
      have hu' : z.cells.toList[j]? = some u := by simpa using hu
      exact ⟨(hd fz w).2 j _ y u hz hy ((hv fz w).2 j _ u hz hu').2, ((hv fz w).2 j _ u hz hu').1⟩
    refine ⟨by simp only [D.cells]; simp at hl2; omega, fun y hy => ?_, fun fz w j y u hy hu => (key fz w j y u hy hu).1⟩
    obtain ⟨j, hj⟩ := List.getElem?_of_mem hy
    have hjl := (List.getElem?_eq_some_iff.1 hj).1
    simp only [D.cells] at hjl hj
    have hu : z.cells[j]? = some (z.cells[j]'(by simp at hl2; omega)) := Array.getElem?_eq_getElem _
    have := key (fun _ _ => False) default j y _ hj hu
    exact this.1.one_of this.2
  | false =>
    simp only [hag, Bool.false_eq_true, if_false] at h
    rw [hag] at h7
    have hzc : z.cells = #[z] := by cases z <;> first | rfl | (simp at h7)
    rw [hzc] at h5 h6 hv ⊢
    cases hz : i.zero with
    | nil => simp [hz] at h
    | cons x r =>
      rw [hz] at h
      simp only [List.head?_cons, Option.bind_some] at h
      have key : ∀ (fz : Nat → Nat → Prop) (w : World), RD fz w zd z ∧ z.oneCell' = true := fun fz w => by
        have := (hv fz w).2 0 x z (by rw [hz]; rfl) rfl
        exact ⟨asD_ok { mu := fun _ => none, fz := fz, gl := [] } [] w _ _ _ h this.2, this.1⟩
      have h1 := (key (fun _ _ => False) default).1.one_of (key (fun _ _ => False) default).2
      have h2 := ((key (fun _ _ => False) default).1.cells_one h1).1
      rw [h2]
      simp only [List.size_toArray] at h6
      refine ⟨by simpa using h6, fun y hy => by simp at hy; subst hy; exact h1, fun fz w j y u hy hu => ?_⟩
      cases j with
      | zero => simp at hy hu; subst hy hu; exact (key fz w).1
      | succ j => simp at hy

omit hty in
theorem zeros_get {z : Array Value} {n sz i j : Nat} {u : Value} (hz : z.size = sz) (hi : i < n) (hj : j < sz) (hu : z[j]? = some u) : (madeCells z (n * sz))[i * sz + j]? = some u := by
  have h1 := idx_lt hi hj
  have h2 := (div_of (i := i) hj).2
  simp only [madeCells, Array.getElem?_map]
  rw [Array.getElem?_range]
  simp only [h1, if_true, Option.map_some, Option.some.injEq]
  rw [hz, h2]
  rw [getElem!_def, hu]

omit hty in
theorem replicate_reads {fz : Nat → Nat → Prop} {w : World} {zd : D} {z : Array Value} {n sz : Nat} (hz : z.size = sz) (hl : zd.cells.length = sz) (hr : ∀ (j : Nat) (y : D) (u : Value), zd.cells[j]? = some y → z[j]? = some u → RD fz w y u) :
    ∀ (i j : Nat) (x y : D), (List.replicate n zd)[i]? = some x → x.cells[j]? = some y → RD fz w y ((madeCells z (n * sz)).getD (i * sz + j) undef) := fun i j x y hx hy => by
  have hi := (List.getElem?_eq_some_iff.1 hx).1
  simp only [List.length_replicate] at hi
  have : x = zd := List.eq_of_mem_replicate (List.mem_of_getElem? hx)
  subst this
  have hj : j < sz := by have := (List.getElem?_eq_some_iff.1 hy).1; omega
  have hu : z[j]? = some (z[j]'(by omega)) := Array.getElem?_eq_getElem _
  have := zeros_get hz hi hj hu
  simp only [Array.getD_eq_getD_getElem?, this, Option.getD_some]
  exact hr j y _ hy hu

theorem makeSliceV_ok (hI : Inv γ S w) {at_ : Nat} (hdead : S[at_]? = some .dead) (hnone : γ.mu at_ = none) {E : Env} (hE : E.ty = ty) {t : Nat} {x c y : V} {S' : Nat × AObj} {v u : Value} (h : makeSliceV E at_ t x c = some (y, S')) (hx : RV γ S w x v) (hc : RV γ S w c u) :
    ∃ z γ' w', (Instr.makeSlice t v u).run P w = .ok z w' ∧ Inv γ' (S.set S'.1 S'.2) w' ∧ Ext S.length γ S w γ' (S.set S'.1 S'.2) w' ∧ RV γ' (S.set S'.1 S'.2) w' y z := by
  subst hE
  unfold makeSliceV Env.elem at h
  cases ht : E.ty t with
  | none => simp [ht] at h
  | some ti =>
    simp only [ht, Option.bind_some] at h
    cases hd : ti.desc <;> rw [hd] at h <;> simp only [Option.bind_none, Option.bind_some] at h <;> first | (cases h; done) | skip
    rename_i e es eb
    cases he : E.ty e with
    | none => simp [he] at h
    | some ei =>
      cases hn : intOf x with
      | none => simp [he, hn] at h
      | some n =>
        cases hcc : intOf c with
        | none => simp [he, hn, hcc] at h
        | some m =>
          cases hz : zeroD ei with
          | none => simp [he, hn, hcc, hz] at h
          | some zd =>
            simp only [he, hn, hcc, hz, Option.bind_some] at h
            split at h <;> first | (cases h; done) | skip
            split at h <;> first | (cases h; done) | skip
            split at h <;> first | (cases h; done) | skip
            split at h <;> first | (cases h; done) | skip
            split at h <;> first | (cases h; done) | skip
            rename_i hby hpos h0 hnm hle
            cases h
            obtain ⟨hu, info, hinfo, hsz, hbytes⟩ := hty.slice ht hd
            obtain ⟨info', z, hi', hs', _, hz', hzs, hzl, hzone, hzr⟩ := zeroD_ok hty he hz
            rw [hinfo] at hi'
            cases hi'
            have hv : v = .int n.1 n.2 := by
              unfold intOf at hn
              split at hn <;> cases hn
              cases hx with | d _ _ hx => cases hx; rfl
            have hu2 : u = .int m.1 m.2 := by
              unfold intOf at hcc
              split at hcc <;> cases hcc
              cases hc with | d _ _ hx => cases hx; rfl
            subst hv hu2
            obtain ⟨k, hk⟩ : ∃ k : Nat, n.2 = k := ⟨n.2.toNat, by omega⟩
            have hkk : n.2.toNat = k := by omega
            rw [hkk]
            have hb1 : info.bytes * k ≤ 281474976710656 := by
              have h1 : info.bytes * k ≤ 65536 * 2147483648 := Nat.mul_le_mul (by omega) (by omega)
              omega
            have hb2 : (info.bytes : Int) * (k : Int) ≤ 281474976710656 := by
              have : ((info.bytes * k : Nat) : Int) ≤ 281474976710656 := by omega
              rwa [Int.natCast_mul] at this
            have hmx : maxLen = 9223372036854775807 := by decide
            have hrun := run_make (P := P) w t e info z hu hinfo hz' n.1 m.1 n.2 m.2 h0 (by omega) (by rw [← hnm, hk]; exact hb2) (by omega)
            have hmk : m.2.toNat = k := by omega
            rw [hkk, hmk, hsz] at hrun
            have hzsz : z.cells.size = es := by omega
            have hmsz : (madeCells z.cells (k * es)).size = k * es := size_madeCells _ _
            have hflat := flat_of (n := k) (sz := es) hmsz
            have hlr : (List.replicate k zd).length = k := by simp
            obtain ⟨γ', g1, g2, g3⟩ := new_list (γ := γ) (S := S) (w := w) hI hdead (.inl ⟨rfl, hnone⟩) true (e := e) (sz := es) (cap := k) (zs := List.replicate k zd) (vs := fun i j => (madeCells z.cells (k * es)).getD (i * es + j) undef) (rest := []) (fun _ => rfl) (fun _ _ _ h => by cases h)
              (w0 := w) (.inl rfl) (by simp) (by omega) (fun x hx => by
                have := List.eq_of_mem_replicate hx
                subst this
                exact ⟨by omega, hzone⟩) (replicate_reads hzsz (by omega) (hzr γ.fz w)) (by rw [hlr, hflat]; simp [hmsz])
            rw [hlr, hflat] at g1 g2 g3
            simp only [newList, if_true, List.append_nil, Array.toArray_toList, hlr] at g1 g2 g3
            exact ⟨_, γ', _, hrun, g1, g2, g3⟩

theorem clearV_ok (hI : Inv γ S w) {E : Env} (hE : E.ty = ty) {t : Nat} {x : V} {W : List (Nat × AObj)} {v : Value} (h : clearV E t S x = some W) (hx : RV γ S w x v) (hes : E.elem t ≠ none) (tr : Nat) :
    ∃ w', (Builtin.clear_ #[t] tr #[v]).run P w = .ok (.tuple #[]) w' ∧ Inv γ (applyW S W) w' ∧ Ext S.length γ S w γ (applyW S W) w' := by
  subst hE
  unfold Env.elem at hes
  cases ht : E.ty t with
  | none => simp [ht] at hes
  | some ti =>
    simp only [ht, Option.bind_some] at hes
    cases hd : ti.desc <;> rw [hd] at hes <;> first | (exact absurd rfl hes) | skip
    rename_i e es eb
    obtain ⟨hu, info, hinfo, hsz, hbytes⟩ := hty.slice ht hd
    unfold clearV at h
    split at h
    · cases h
      cases hx
      exact ⟨w, by simp [Builtin.clear_, run_underlying hu], hI, Ext.refl (Nat.le_refl _)⟩
    · rename_i o lo n
      split at h <;> first | (cases h; done) | skip
      rename_i e' sz xs ho
      simp only [Env.elem, ht, hd, Option.bind_some] at h
      split at h <;> first | (cases h; done) | skip
      rename_i hee
      obtain ⟨rfl, hes2⟩ := hee
      cases he : E.ty e with
      | none => simp [he] at h
      | some ei =>
        cases hz : zeroD ei with
        | none => simp [he, hz] at h
        | some zd =>
          simp only [he, hz, Option.bind_some, Option.some.injEq] at h
          subst h
          obtain ⟨info', z, hi', hs', _, hz', hzs, hzl, hzone, hzr⟩ := zeroD_ok hty he hz
          rw [hinfo] at hi'
          cases hi'
          have hrow : rowAt S o = some (e, sz, xs) := by simp [rowAt, ho, AObj.rowOf]
          obtain ⟨hle, hsl⟩ := hx.sl_row hrow
          show ∃ w', _ ∧ Inv γ (S.set o (.row e sz (putCells xs lo (List.replicate n zd)))) w' ∧ Ext S.length γ S w γ (S.set o (.row e sz (putCells xs lo (List.replicate n zd)))) w'
          rcases hsl with ⟨rfl, a, rfl⟩ | ⟨b, cap, cur, h1, rfl, h3, h4, h5, h6⟩
          · have hp : putCells xs lo (List.replicate 0 zd) = xs := by simp [putCells]
            rw [hp, set_same ho]
            exact ⟨w, by cases a <;> simp [Builtin.clear_, run_underlying hu], hI, Ext.refl (Nat.le_refl _)⟩
          · by_cases hn : n = 0
            · subst hn
              have hp : putCells xs lo (List.replicate 0 zd) = xs := by simp [putCells]
              rw [hp, set_same ho]
              exact ⟨w, by simp [Builtin.clear_, run_underlying hu], hI, Ext.refl (Nat.le_refl _)⟩
            · obtain ⟨cur', q0, q1, q2, q3⟩ := row_cells hI ho rfl h1
              rw [h5] at q0
              cases q0
              have hzc : Builtin.zeroCells z.cells n = madeCells z.cells (n * z.cells.size) := rfl
              have hzl2 : zd.cells.length = sz := by omega
              have hzsz : z.cells.size = sz := by omega
              have hlen : (Builtin.zeroCells z.cells n).toList.length = n * sz := by rw [Array.length_toList, size_zeroCells, hzsz]
              have hfit : lo * sz + (Builtin.zeroCells z.cells n).toList.length ≤ cur.size := by
                rw [hlen, ← Nat.add_mul]
                exact Nat.le_trans (Nat.mul_le_mul_right _ hle) q2
              have hone : ∀ v ∈ (Builtin.zeroCells z.cells n).toList, v.oneCell' = true := fun v hv => by
                obtain ⟨k, hk⟩ := List.getElem?_of_mem hv
                have hkl := (List.getElem?_eq_some_iff.1 hk).1
                rw [hlen] at hkl
                have h0 : 0 < sz := by
                  rcases Nat.eq_zero_or_pos sz with h0 | h0
                  · rw [h0] at hkl; simp at hkl
                  · exact h0
                have hm := Nat.mod_lt k h0
                have hu' : z.cells[k % sz]? = some (z.cells[k % sz]'(by omega)) := Array.getElem?_eq_getElem _
                have hy' : zd.cells[k % sz]? = some (zd.cells[k % sz]'(by omega)) := List.getElem?_eq_getElem _
                have hzg := zeros_get (n := n) hzsz ((Nat.div_lt_iff_lt_mul h0).2 hkl) hm hu'
                have hkk : k / sz * sz + k % sz = k := by have := Nat.div_add_mod k sz; rw [Nat.mul_comm] at this; exact this
                rw [hkk] at hzg
                rw [hzc, hzsz, Array.getElem?_toList, hzg] at hk
                cases hk
                exact (hzr γ.fz w _ _ _ hy' hu').oneCell (hzone _ (List.getElem_mem _))
              have hst := run_storeCells_at P b (lo * sz) e (Builtin.zeroCells z.cells n).toList 0 cur w h5 (by simpa using hfit) hone
              simp only [Nat.add_zero] at hst
              have hpc := putCells_length (cs := cur.toList) (off := lo * sz) (vs := (Builtin.zeroCells z.cells n).toList) (by simpa using hfit)
              have hpx := putCells_length (cs := xs) (off := lo) (vs := List.replicate n zd) (by simpa using hle)
              obtain ⟨r1, r2⟩ := row_write (xs' := putCells xs lo (List.replicate n zd)) (cur' := (putCells cur.toList (lo * sz) (Builtin.zeroCells z.cells n).toList).toArray) hI ho h1 h5 (by rw [List.size_toArray, hpc]; simp) (by rw [hpx]; exact Nat.le_refl _) (by
                refine ⟨fun x hx => ?_, by rw [List.size_toArray, hpc, hpx]; simpa using q2, fun k j x y hx hy => ?_⟩
                · rcases putCells_mem hx with hx | hx
                  · exact q1 x hx
                  · have := List.eq_of_mem_replicate hx
                    subst this
                    exact ⟨hzl2, hzone⟩
                · rw [List.getElem?_toArray, putCells_get (by simpa using hfit)]
                  rw [putCells_get (by simpa using hle)] at hx
                  simp only [List.length_replicate] at hx
                  by_cases hk : lo ≤ k ∧ k < lo + n
                  · rw [if_pos hk] at hx
                    have := List.eq_of_mem_replicate (List.mem_of_getElem? hx)
                    subst this
                    have hj : j < sz := by have := (List.getElem?_eq_some_iff.1 hy).1; omega
                    have hlt := idx_lt (sz := sz) (n := n) (i := k - lo) (by omega) hj
                    have he2 : k * sz + j - lo * sz = (k - lo) * sz + j := by
                      have : k * sz = lo * sz + (k - lo) * sz := by rw [← Nat.add_mul]; congr 1; omega
                      omega
                    have he3 : lo * sz ≤ k * sz := Nat.mul_le_mul_right _ hk.1
                    rw [if_pos (by rw [hlen]; omega), he2]
                    obtain ⟨u0, hu'⟩ : ∃ u0, z.cells[j]? = some u0 := ⟨_, Array.getElem?_eq_getElem (by omega)⟩
                    have hzg := zeros_get (n := n) hzsz (i := k - lo) (by omega) hj hu'
                    exact ⟨u0, by rw [Array.getElem?_toList, hzc, hzsz]; exact hzg, hzr γ.fz w j y _ hy hu'⟩
                  · rw [if_neg hk] at hx
                    have hj : j < sz := by have := (List.getElem?_eq_some_iff.1 hy).1; have := (q1 x (List.mem_of_getElem? hx)).1; omega
                    rw [if_neg (by
                      rw [hlen]
                      rintro ⟨k1, k2⟩
                      rcases Nat.lt_or_ge k lo with hlt | hge
                      · have : (k + 1) * sz ≤ lo * sz := Nat.mul_le_mul_right _ hlt
                        rw [Nat.add_mul, Nat.one_mul] at this
                        omega
                      · have : (lo + n) * sz ≤ k * sz := Nat.mul_le_mul_right _ (by omega)
                        rw [Nat.add_mul] at this
                        omega)]
                    simpa using q3 k j x y hx hy)
              have hzv : (zeroValue e).run P w = .ok z w := by simp [zeroValue, typeInfo, hinfo, hz']
              refine ⟨_, ?_, r1, r2⟩
              obtain ⟨n', rfl⟩ : ∃ k, n = k + 1 := ⟨n - 1, by omega⟩
              simp [Builtin.clear_, run_underlying hu, hzv, hst, putCells]
    · cases h
end
end Go.Wm
