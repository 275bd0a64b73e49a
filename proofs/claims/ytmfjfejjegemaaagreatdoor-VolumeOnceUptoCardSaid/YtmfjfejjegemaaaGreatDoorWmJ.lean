/-
  A part of the proof: an abstract run of the program, shown to be what the model does, and what it comes to.
-/
import Derived.Test.YtmfjfejjegemaaaGreatDoorWmI
set_option linter.unusedVariables false
set_option linter.unusedSimpArgs false
set_option linter.unnecessarySimpa false
set_option linter.defProp false
set_option linter.unusedSectionVars false
namespace Go.Wm
open Go
variable [GlobReq]

section
variable {P : Program} {γ : Gh} {S : St} {w : World}

theorem set_same {S : St} {t : Nat} {ob : AObj} (h : S[t]? = some ob) : S.set t ob = S := by
  apply List.ext_getElem?
  intro k
  rw [List.getElem?_set' _ _ _ _ (List.getElem?_eq_some_iff.1 h).1]
  by_cases hk : t = k
  · subst hk; simp [h]
  · simp [hk]

/-- append of nothing -/
theorem append_none {t ty e : TypeId} {i : TypeInfo} (ht : P.underlying t = some (.slice e)) (hi : P.info? e = some i)
    {a : Option Addr} {n c : Nat} {u : Value} (hc : n ≤ c) (hu : Reads γ.fz w [] u) : (Builtin.append_ #[t, t] ty #[.slice a n c, u]).run P w = .ok (.slice a n c) w := by
  obtain ⟨a', c', rfl⟩ := hu.slice
  cases a <;> cases a' <;> simp [Builtin.append_, run_underlying ht, sizeOf, typeInfo, Builtin.lenOf, Builtin.firstCells, loadCells, loadCellsFrom, storeCells, *]

theorem Reads.at {ys : List D} {u : Value} {es : Nat} (h : Reads γ.fz w ys u) (hs : ∀ y ∈ ys, y.cells.length = es) (hne : ys ≠ []) :
    ∃ us : Nat → Nat → Value, (∀ x ∈ ys, x.cells.length = es ∧ ∀ y ∈ x.cells, y.one = true) ∧ (∀ (i j : Nat) (x y : D), ys[i]? = some x → x.cells[j]? = some y → RD γ.fz w y (us i j)) ∧
      (∀ v ∈ flat ys.length es us, v.oneCell' = true) ∧ ∃ a c, u = .slice (some a) ys.length c ∧ ∀ k u, (flat ys.length es us)[k]? = some u → w.cell? (a.add k) = some u := by
  obtain ⟨sz, us, h1, h2, h3⟩ := h
  obtain ⟨y, r, rfl⟩ := List.exists_cons_of_ne_nil hne
  have e : sz = es := by rw [← hs y (by simp)]; exact (h1 y (by simp)).1.symm
  subst e
  rcases h3 with ⟨h3, _⟩ | h3
  · exact absurd h3 hne
  · refine ⟨us, h1, h2, fun v hv => ?_, h3⟩
    obtain ⟨k, hk⟩ := List.getElem?_of_mem hv
    obtain ⟨i, j, hi, hj, rfl, rfl⟩ := flat_inv us hk
    have hm : (y :: r)[i] ∈ y :: r := List.getElem_mem hi
    have hl := (h1 _ hm).1
    have hy : (y :: r)[i].cells[j]? = some (y :: r)[i].cells[j] := by simp [hl, hj]
    exact (h2 i j (y :: r)[i] _ (by simp [hi]) hy).oneCell ((h1 _ hm).2 _ (List.getElem_mem _))

/-- append onto a slice without spare room: a list of its own -/
theorem append_full {t ty e : TypeId} {i : TypeInfo} {z : Value} (ht : P.underlying t = some (.slice e)) (hi : P.info? e = some i) (hz : i.zero = some z) (hzs : z.cells.size = i.size)
    (hI : Inv γ S w) {o : Nat} (hdead : S[o]? = some .dead) (hnone : γ.mu o = none) (rows : Bool) {a : Option Addr} {u : Value} {sz : Nat} {xs ys : List D} (hsz : i.size = sz) (hv : Reads γ.fz w xs (.slice a xs.length xs.length))
    (hfz : ys = [] → rows = false → RD γ.fz w (.sl xs) (.slice a xs.length xs.length)) (hrows : ys = [] → rows = true → xs = []) (hnn : a = none → xs = [])
    (hxs : ∀ x ∈ xs, x.cells.length = sz) (hys : ∀ x ∈ ys, x.cells.length = sz) (hu : Reads γ.fz w ys u) (h63 : xs.length + ys.length ≤ maxLen) (hb : (xs.length + ys.length) * i.bytes ≤ 140737488355328) :
    ∃ v' γ' w', (Builtin.append_ #[t, t] ty #[.slice a xs.length xs.length, u]).run P w = .ok v' w' ∧ Inv γ' (applyW S (newList rows o e sz (xs ++ ys)).2) w' ∧
      Ext S.length γ S w γ' (applyW S (newList rows o e sz (xs ++ ys)).2) w' ∧ RV γ' (applyW S (newList rows o e sz (xs ++ ys)).2) w' (newList rows o e sz (xs ++ ys)).1 v' := by
  have hlt : o < S.length := (List.getElem?_eq_some_iff.1 hdead).1
  by_cases hm : ys = []
  · subst hm
    rw [List.append_nil]
    have hrun := append_none (P := P) (ty := ty) ht hi (a := a) (n := xs.length) (c := xs.length) (Nat.le_refl _) hu
    cases rows with
    | false =>
      simp only [newList, Bool.false_eq_true, if_false]
      have haw : applyW S [(o, AObj.tok e xs.length sz)] = S.set o (.tok e xs.length sz) := rfl
      rw [haw]
      obtain ⟨h1, h2⟩ := fill (γ' := γ) (w' := w) hI hdead hnone (.tok e xs.length sz) (fun h => by cases h) (fun _ _ => rfl) (fun b hb => by rw [hnone] at hb; cases hb) (fun _ _ => rfl) (Nat.le_refl _)
        (fun _ _ h => h) (fun _ _ h => .inl h) rfl rfl rfl (fun _ b hb => by rw [hnone] at hb; cases hb)
      refine ⟨_, γ, w, hrun, h1, h2, .own o e sz xs.length xs _ (by rw [List.getElem?_set]; simp [hlt]) (Nat.le_refl _) (hfz rfl rfl) (fun _ => ?_) hxs⟩
      cases a with
      | none => have := hnn rfl; subst this; exact .inl rfl
      | some a => exact .inr (.inl ⟨some a, rfl⟩)
    | true =>
      have := hrows rfl rfl
      subst this
      simp only [newList, if_true]
      have haw : applyW S [(o, AObj.row e sz [])] = S.set o (.row e sz []) := rfl
      rw [haw]
      obtain ⟨h1, h2⟩ := fill (γ' := γ) (w' := w) hI hdead hnone (.row e sz []) (fun h => by cases h) (fun _ _ => rfl) (fun b hb => by rw [hnone] at hb; cases hb) (fun _ _ => rfl) (Nat.le_refl _)
        (fun _ _ h => h) (fun _ _ h => .inl h) rfl rfl rfl (fun _ => ⟨fun _ => rfl, fun b hb => by rw [hnone] at hb; cases hb⟩)
      exact ⟨_, γ, w, hrun, h1, h2, .sl o 0 0 (.row e sz []) _ (.zero rfl) (by rw [List.getElem?_set]; simp [hlt]) (.inr ⟨_, rfl⟩) fun e1 sz1 xs1 hr1 => by cases hr1; exact ⟨by simp, .inl ⟨rfl, a, rfl⟩⟩⟩
  · have hmp : 0 < ys.length := List.length_pos_iff.2 hm
    obtain ⟨us, hus, hur, hu1, hu3⟩ := hu.at hys hm
    have hx : ∃ vs : Nat → Nat → Value, (∀ x ∈ xs, x.cells.length = sz ∧ ∀ y ∈ x.cells, y.one = true) ∧ (∀ (i j : Nat) (x y : D), xs[i]? = some x → x.cells[j]? = some y → RD γ.fz w y (vs i j)) ∧
        ((xs = [] ∧ (.slice a xs.length xs.length : Value) = .slice none 0 0) ∨ (∃ a' cap, (.slice a xs.length xs.length : Value) = .slice (some a') xs.length cap ∧ cap < xs.length + ys.length ∧ cap ≤ maxLen ∧ ∀ k u, (flat xs.length sz vs)[k]? = some u → w.cell? (a'.add k) = some u)) := by
      by_cases hxe : xs = []
      · subst hxe
        refine ⟨fun _ _ => undef, fun _ h => by simp at h, fun i j x y h => by simp at h, ?_⟩
        cases a with
        | none => exact .inl ⟨rfl, rfl⟩
        | some a => exact .inr ⟨a, 0, rfl, by simpa using hmp, by simp, fun k u hk => by simp [flat] at hk⟩
      · obtain ⟨vs, h1, h2, _, a', c, h3, h4⟩ := hv.at hxs hxe
        cases h3
        exact ⟨vs, h1, h2, .inr ⟨a', xs.length, rfl, by omega, by omega, h4⟩⟩
    obtain ⟨vs, hvs, hvr, hv3⟩ := hx
    obtain ⟨cap, rest, hrun, hcap, hmax, hsize⟩ := append_world (ty := ty) ht hi hz hzs hsz hv3 hu3 hmp h63 hb
    have hzl : (xs ++ ys).length = xs.length + ys.length := by simp
    obtain ⟨γ', g1, g2, g3⟩ := new_list (γ := γ) (S := S) (w := w) hI hdead (.inl ⟨rfl, hnone⟩) rows (e := e) (sz := sz) (cap := cap) (zs := xs ++ ys) (vs := both xs.length vs us) (rest := rest) (fun _ => rfl) (fun _ _ _ h => by cases h)
      (w0 := w.drew) (.inr rfl) (by rw [hzl]; exact hcap) hmax (sizes_append hvs hus) (reads_append hvr hur) (by rw [hzl]; exact hsize)
    rw [hzl] at g1 g2 g3
    exact ⟨_, γ', _, hrun, g1, g2, g3⟩

/-- append onto a slice with a token -/
theorem append_own {t ty e : TypeId} {i : TypeInfo} {z : Value} (ht : P.underlying t = some (.slice e)) (hi : P.info? e = some i) (hz : i.zero = some z) (hzs : z.cells.size = i.size)
    (hI : Inv γ S w) {v u : Value} {sz o : Nat} {xs ys : List D} (hsz : i.size = sz) (hS : S[o]? = some (.tok e xs.length sz))
    (hv : RV γ S w (.own o xs) v) (hys : ∀ x ∈ ys, x.cells.length = sz) (hu : Reads γ.fz w ys u) (h63 : xs.length + ys.length ≤ maxLen) (hb : (xs.length + ys.length) * i.bytes ≤ 140737488355328) :
    ∃ v' γ' w', (Builtin.append_ #[t, t] ty #[v, u]).run P w = .ok v' w' ∧ Inv γ' (S.set o (.tok e (xs.length + ys.length) sz)) w' ∧
      Ext S.length γ S w γ' (S.set o (.tok e (xs.length + ys.length) sz)) w' ∧ RV γ' (S.set o (.tok e (xs.length + ys.length) sz)) w' (.own o (xs ++ ys)) v' := by
  have hlt : o < S.length := (List.getElem?_eq_some_iff.1 hS).1
  obtain ⟨hd, hk, hxs⟩ : RD γ.fz w (.sl xs) v ∧ TokOk γ w o e sz xs.length v ∧ ∀ x ∈ xs, x.cells.length = sz := by
    cases hv with
    | own _ e' _ f _ _ ht' hf hd hk hz =>
      rw [hS] at ht'
      cases ht'
      exact ⟨hd, hk rfl, hz⟩
  by_cases hm : ys = []
  · subst hm
    have hset : S.set o (.tok e (xs.length + ([] : List D).length) sz) = S := by
      simp only [List.length_nil, Nat.add_zero]
      exact set_same hS
    rw [hset]
    obtain ⟨a, c, rfl, hc⟩ : ∃ a c, v = .slice a xs.length c ∧ xs.length ≤ c := by
      rcases hd.sl_inv with ⟨rfl, rfl⟩ | ⟨_, a, cap, _, rfl, _, hcap, _⟩
      · exact ⟨none, 0, rfl, Nat.le_refl _⟩
      · exact ⟨_, _, rfl, hcap⟩
    refine ⟨_, γ, w, append_none ht hi hc hu, hI, Ext.refl (Nat.le_refl _), ?_⟩
    rw [List.append_nil]
    exact hv
  have hmp : 0 < ys.length := List.length_pos_iff.2 hm
  have hzl : (xs ++ ys).length = xs.length + ys.length := by simp
  obtain ⟨us, hus, hur, hu1, hu3⟩ := hu.at hys hm
  have hx : ∃ vs : Nat → Nat → Value, (∀ x ∈ xs, x.cells.length = sz ∧ ∀ y ∈ x.cells, y.one = true) ∧ (∀ (i j : Nat) (x y : D), xs[i]? = some x → x.cells[j]? = some y → RD γ.fz w y (vs i j)) ∧
      ((xs = [] ∧ v = .slice none 0 0) ∨ (∃ a cap, v = .slice (some a) xs.length cap ∧ (xs = [] ∨ a.spot = none) ∧ xs.length ≤ cap ∧ cap ≤ maxLen ∧
        ∀ k u, (flat xs.length sz vs)[k]? = some u → γ.fz a.block (a.off + k) ∧ w.cell? (a.add k) = some u)) := by
    obtain ⟨sz', vs, h1, h2, h3⟩ := hd.sl_cells
    by_cases hxe : xs = []
    · subst hxe
      refine ⟨fun _ _ => undef, fun _ h => by simp at h, fun i j x y h => by simp at h, ?_⟩
      rcases h3 with h3 | ⟨a, cap, q1, q2, q3, q4, q5⟩
      · exact .inl h3
      · exact .inr ⟨a, cap, q1, q2, q3, q4, fun k u hk => by simp [flat] at hk⟩
    · obtain ⟨x, r, hxr⟩ := List.exists_cons_of_ne_nil hxe
      have e1 : sz' = sz := by rw [← hxs x (by rw [hxr]; simp)]; exact (h1 x (by rw [hxr]; simp)).1.symm
      subst e1
      exact ⟨vs, h1, h2, h3⟩
  obtain ⟨vs, hvs, hvr, hv2⟩ := hx
  have grow : ((xs = [] ∧ v = .slice none 0 0) ∨ (∃ a cap, v = .slice (some a) xs.length cap ∧ cap < xs.length + ys.length ∧ cap ≤ maxLen ∧ ∀ k u, (flat xs.length sz vs)[k]? = some u → w.cell? (a.add k) = some u)) →
      ∃ v' γ' w', (Builtin.append_ #[t, t] ty #[v, u]).run P w = .ok v' w' ∧ Inv γ' (S.set o (.tok e (xs.length + ys.length) sz)) w' ∧
      Ext S.length γ S w γ' (S.set o (.tok e (xs.length + ys.length) sz)) w' ∧ RV γ' (S.set o (.tok e (xs.length + ys.length) sz)) w' (.own o (xs ++ ys)) v' := by
    intro hv3
    obtain ⟨cap, rest, hrun, hcap, hmax, hsize⟩ := append_world (ty := ty) ht hi hz hzs hsz hv3 hu3 hmp h63 hb
    obtain ⟨γ', g1, g2, g3⟩ := new_list (γ := γ) (S := S) (w := w) hI hS (.inr ⟨_, _, _, rfl⟩) false (e := e) (sz := sz) (cap := cap) (zs := xs ++ ys) (vs := both xs.length vs us) (rest := rest) (fun h => by cases h) (fun _ _ _ h => by cases h; exact ⟨rfl, rfl, by omega⟩)
      (w0 := w.drew) (.inr rfl) (by rw [hzl]; exact hcap) hmax (sizes_append hvs hus) (reads_append hvr hur) (by rw [hzl]; exact hsize)
    simp only [newList, Bool.false_eq_true, if_false] at g1 g2 g3
    rw [hzl] at g1 g2 g3
    exact ⟨_, γ', _, hrun, g1, g2, g3⟩
  rcases hk with hk | ⟨a, hk⟩ | ⟨b, cap, cur, hmu, rfl, hg, hnc, hcm, hcs⟩
  · refine grow ?_
    rcases hv2 with h | ⟨a, c, h2, _⟩
    · exact .inl h
    · rw [hk] at h2; cases h2
  · refine grow ?_
    rcases hv2 with h | ⟨a', c, h2, _, _, h5, h6⟩
    · exact .inl h
    · rw [hk] at h2
      cases h2
      exact .inr ⟨_, xs.length, hk, by omega, h5, fun k u hk => (h6 k u hk).2⟩
  · by_cases hroom : xs.length + ys.length ≤ cap
    · -- in place
      obtain ⟨a, c, rfl, hnews⟩ := hu3
      have hv4 : ∀ k u, (flat xs.length sz vs)[k]? = some u → γ.fz b k ∧ w.cell? ⟨b, k, none⟩ = some u := by
        rcases hv2 with ⟨_, h⟩ | ⟨a', c', h2, _, _, _, h6⟩
        · cases h
        · cases h2
          intro k u hk
          have := h6 k u hk
          rw [Addr.add_lit, Nat.zero_add] at this
          exact this
      subst hsz
      have hnl : (flat ys.length i.size us).length = ys.length * i.size := flat_length ..
      have hfit : xs.length * i.size + (flat ys.length i.size us).length ≤ cur.size := by rw [hnl, hcs, ← Nat.add_mul]; exact Nat.mul_le_mul_right _ hroom
      have hrun := run_append_room (P := P) w t ty e i ht hi b xs.length cap cur hg a ys.length c (flat ys.length i.size us) hnl hnews hu1 hroom hfit
      generalize hcur : (cur.toList.take (xs.length * i.size) ++ flat ys.length i.size us ++ cur.toList.drop (xs.length * i.size + (flat ys.length i.size us).length)).toArray = cur' at hrun
      have hcs' : cur'.size = cap * i.size := by
        rw [← hcur, ← hcs]
        simp only [List.size_toArray, List.length_append, List.length_take, List.length_drop, Array.length_toList]
        omega
      have hlow : ∀ k, k < xs.length * i.size → cur'[k]? = cur[k]? := fun k hk => by
        rw [← hcur]
        simp only [List.getElem?_toArray, List.append_assoc]
        rw [List.getElem?_append_left (by simp; omega), List.getElem?_take, if_pos hk, Array.getElem?_toList]
      have hnew : ∀ k u, (flat ys.length i.size us)[k]? = some u → cur'[xs.length * i.size + k]? = some u := fun k u hk => by
        have hkl := (List.getElem?_eq_some_iff.1 hk).1
        rw [← hcur]
        simp only [List.getElem?_toArray, List.append_assoc]
        rw [List.getElem?_append_right (by simp; omega)]
        have e1 : (cur.toList.take (xs.length * i.size)).length = xs.length * i.size := by simp; omega
        rw [e1, Nat.add_sub_cancel_left, List.getElem?_append_left hkl]
        exact hk
      have hb' := setRow_get w b cur cur' e (0, 0) hg
      have hcell' : ∀ k, (w.setRow b cur').cell? ⟨b, k, none⟩ = cur'[k]? := fun k => cell_of_row _ b k cur' e _ hb'
      have hcell : ∀ k, w.cell? ⟨b, k, none⟩ = cur[k]? := fun k => cell_of_row _ b k cur e _ hg
      let γ' : Gh := { mu := γ.mu, fz := fun c k => γ.fz c k ∨ (c = b ∧ k < (xs.length + ys.length) * i.size), gl := γ.gl }
      have hfzb : ∀ off, γ.fz b off → off < xs.length * i.size := fun off hf => by
        have := (hI.obj o _ hS) b hmu
        by_cases h : off < xs.length * i.size
        · exact h
        · exact absurd hf (this.2 off (by omega))
      have he : Ext S.length γ S w γ' (S.set o (.tok e (xs.length + ys.length) i.size)) (w.setRow b cur') :=
        Ext.setObj (γ' := γ') hI hS hmu (fun _ _ => rfl) (by simp) (fun c hc => setRow_other w b c _ hc) (fun _ _ h => .inl h) (fun c k h => h.imp id fun h => h.1)
          (fun off hf => by rw [hcell', hcell]; exact hlow off (hfzb off hf)) ⟨xs.length + ys.length, rfl, by omega, fun h => by omega⟩ rfl rfl rfl
      have hsz' : (xs.length + ys.length) * i.size ≤ cur'.size := by rw [hcs']; exact Nat.mul_le_mul_right _ hroom
      have hInv : Inv γ' (S.set o (.tok e (xs.length + ys.length) i.size)) (w.setRow b cur') := by
        refine Inv.setObj (γ' := γ') hI hS hmu (fun _ _ => rfl) (by simp) (fun c hc => setRow_other w b c _ hc) (fun c k h => h.imp id fun h => ⟨h.1, ?_⟩) he ?_
        · rw [hcell']
          exact ⟨cur'[k]'(by omega), by simp⟩
        · intro b2 hb2
          have : b2 = b := by have h := hb2; simp only [γ', hmu] at h; exact (Option.some.inj h).symm
          subst this
          refine ⟨⟨cur', hb'⟩, fun off hoff hf => ?_⟩
          rcases hf with hf | ⟨_, hf⟩
          · have := hfzb off hf
            rw [Nat.add_mul] at hoff
            omega
          · omega
      refine ⟨_, γ', _, hrun, hInv, he, ?_⟩
      have hfl : ∀ k u, (flat (xs ++ ys).length i.size (both xs.length vs us))[k]? = some u → cur'[k]? = some u := fun k u hk => by
        rw [hzl, ← flat_both] at hk
        by_cases h : k < xs.length * i.size
        · rw [List.getElem?_append_left (by rw [flat_length]; exact h)] at hk
          rw [hlow k h, ← hcell]
          exact (hv4 k u hk).2
        · rw [List.getElem?_append_right (by rw [flat_length]; omega), flat_length] at hk
          have := hnew _ u hk
          rwa [show xs.length * i.size + (k - xs.length * i.size) = k by omega] at this
      have hrd : RD γ'.fz (w.setRow b cur') (.sl (xs ++ ys)) (.slice (some ⟨b, 0, none⟩) (xs ++ ys).length cap) :=
        RD.sl_mk (vs := both xs.length vs us) (by rw [hzl]; exact hroom) hcm (sizes_append hvs hus) (fun k u hk => by
          have hkl := (List.getElem?_eq_some_iff.1 hk).1
          rw [flat_length, hzl] at hkl
          rw [Nat.zero_add]
          exact ⟨.inr ⟨rfl, hkl⟩, by rw [hcell']; exact hfl k u hk⟩)
          (fun i j x y hx hy => (reads_append hvr hur i j x y hx hy).mono he.fz he.cell)
      have hrd' := hrd
      rw [hzl] at hrd'
      refine .own o e i.size (xs.length + ys.length) (xs ++ ys) _ (by rw [List.getElem?_set' _ _ _ _ hlt]; simp) (by simp) hrd' (fun _ => ?_) (fun x hx => (sizes_append hvs hus x hx).1)
      rw [hzl]
      exact .inr (.inr ⟨b, cap, cur', hmu, rfl, hb', hroom, hcm, hcs'⟩)
    · refine grow ?_
      rcases hv2 with h | ⟨a', c, h2, _, _, h5, h6⟩
      · exact .inl h
      · cases h2
        exact .inr ⟨⟨b, 0, none⟩, cap, rfl, by omega, h5, fun k u hk => (h6 k u hk).2⟩

/-- a row under another number -/
theorem move_row (hI : Inv γ S w) {o p e sz : Nat} {xs : List D} (ho : S[o]? = some (.row e sz xs)) (hp : S[p]? = some .dead) (hpn : γ.mu p = none) :
    ∃ γ', Inv γ' (applyW S [(o, .gone), (p, .row e sz xs)]) w ∧ Ext S.length γ S w γ' (applyW S [(o, .gone), (p, .row e sz xs)]) w ∧ γ'.fz = γ.fz ∧ γ'.mu p = γ.mu o := by
  have hlo := (List.getElem?_eq_some_iff.1 ho).1
  have hlp := (List.getElem?_eq_some_iff.1 hp).1
  have hne : o ≠ p := fun h => by subst h; rw [ho] at hp; cases hp
  have haw : applyW S [(o, AObj.gone), (p, AObj.row e sz xs)] = (S.set o .gone).set p (.row e sz xs) := rfl
  rw [haw]
  have hget : ∀ j, ((S.set o AObj.gone).set p (AObj.row e sz xs))[j]? = if p = j then some (.row e sz xs) else if o = j then some .gone else S[j]? := fun j => by
    rw [List.getElem?_set' _ _ _ _ (by simpa using hlp), List.getElem?_set' _ _ _ _ hlo]
  let γ' : Gh := { mu := fun i => if i = p then γ.mu o else if i = o then none else γ.mu i, fz := γ.fz, gl := γ.gl }
  have hmu : ∀ j, j ≠ o → j ≠ p → γ'.mu j = γ.mu j := fun j h1 h2 => by simp [γ', h1, h2]
  have hmuo : γ'.mu o = none := by simp [γ', hne]
  have hmup : γ'.mu p = γ.mu o := by simp [γ']
  have he : Ext S.length γ S w γ' ((S.set o .gone).set p (.row e sz xs)) w := by
    refine ⟨Nat.le_refl _, by simp, fun _ _ h => h, fun _ _ _ => rfl, Nat.le_refl _, fun j x hj hx => ?_, fun _ _ _ => rfl, fun b ⟨j, hj, hb⟩ => ?_, fun _ _ h => .inl h, rfl, rfl, rfl, rfl⟩
    · rw [hget]
      by_cases h1 : p = j
      · subst h1
        rw [hp] at hx
        cases hx
        intro h
        simp at h
      · rw [if_neg h1]
        by_cases h2 : o = j
        · subst h2
          rw [ho] at hx
          cases hx
          exact .inl (by simp)
        · rw [if_neg h2, hx]
          exact Keep.refl x (hmu j (Ne.symm h2) (Ne.symm h1)) fun _ _ => rfl
    · simp at hj
      by_cases h1 : j = p
      · subst h1; rw [hmup] at hb; exact .inl ⟨o, hlo, hb⟩
      · by_cases h2 : j = o
        · subst h2; rw [hmuo] at hb; cases hb
        · rw [hmu j h2 h1] at hb; exact .inl ⟨j, hj, hb⟩
  have hok := hI.obj o _ ho
  refine ⟨γ', ⟨fun j x hx => ?_, fun j j' b h1 h2 h3 h4 => ?_, hI.fzin, fun j b hj hb => ?_, hI.gl_ext he⟩, he, rfl, hmup⟩
  · rw [hget] at hx
    by_cases h1 : p = j
    · subst h1
      rw [if_pos rfl] at hx
      cases hx
      refine ⟨fun hn => hok.1 (hmup ▸ hn), fun b hb => ?_⟩
      obtain ⟨⟨cur, q1, q2⟩, q3⟩ := hok.2 b (hmup ▸ hb)
      exact ⟨⟨cur, q1, q2⟩, q3⟩
    · rw [if_neg h1] at hx
      by_cases h2 : o = j
      · subst h2
        rw [if_pos rfl] at hx
        cases hx
        exact hmuo
      · rw [if_neg h2] at hx
        exact (hI.obj j x hx).mono he (hmu j (Ne.symm h2) (Ne.symm h1)) fun b _ => ⟨rfl, fun _ h => h⟩
  · simp at h1 h2
    have key : ∀ i, i < S.length → γ'.mu i = some b → (i = p ∧ γ.mu o = some b) ∨ (i ≠ p ∧ i ≠ o ∧ γ.mu i = some b) := fun i hi hb => by
      by_cases k1 : i = p
      · subst k1; exact .inl ⟨rfl, hmup ▸ hb⟩
      · by_cases k2 : i = o
        · subst k2; rw [hmuo] at hb; cases hb
        · exact .inr ⟨k1, k2, (hmu i k2 k1) ▸ hb⟩
    rcases key j h1 h3 with ⟨rfl, a1⟩ | ⟨a1, a2, a3⟩ <;> rcases key j' h2 h4 with ⟨rfl, b1⟩ | ⟨b1, b2, b3⟩
    · rfl
    · exact absurd (hI.inj o j' b hlo h2 a1 b3).symm b2
    · exact absurd (hI.inj o j b hlo h1 b1 a3).symm a2
    · exact hI.inj j j' b h1 h2 a3 b3
  · simp at hj
    by_cases k1 : j = p
    · subst k1; exact hI.lt o b hlo (hmup ▸ hb)
    · by_cases k2 : j = o
      · subst k2; rw [hmuo] at hb; cases hb
      · exact hI.lt j b hj ((hmu j k2 k1) ▸ hb)

/-- append onto a whole row -/
theorem append_row {t ty e : TypeId} {i : TypeInfo} {z : Value} (ht : P.underlying t = some (.slice e)) (hi : P.info? e = some i) (hz : i.zero = some z) (hzs : z.cells.size = i.size)
    (hI : Inv γ S w) {v u : Value} {sz o p : Nat} {xs ys : List D} (hsz : i.size = sz) (ho : S[o]? = some (.row e sz xs)) (hp : S[p]? = some .dead) (hpn : γ.mu p = none)
    (hv : RV γ S w (.sl o 0 xs.length) v) (hys : ∀ x ∈ ys, x.cells.length = sz) (hu : Reads γ.fz w ys u) (h63 : xs.length + ys.length ≤ maxLen) (hb : (xs.length + ys.length) * i.bytes ≤ 140737488355328) :
    ∃ v' γ' w', (Builtin.append_ #[t, t] ty #[v, u]).run P w = .ok v' w' ∧ Inv γ' (applyW S [(o, .gone), (p, .row e sz (xs ++ ys))]) w' ∧
      Ext S.length γ S w γ' (applyW S [(o, .gone), (p, .row e sz (xs ++ ys))]) w' ∧ RV γ' (applyW S [(o, .gone), (p, .row e sz (xs ++ ys))]) w' (.sl p 0 (xs.length + ys.length)) v' := by
  have hlo := (List.getElem?_eq_some_iff.1 ho).1
  have hlp := (List.getElem?_eq_some_iff.1 hp).1
  have hne : o ≠ p := fun h => by subst h; rw [ho] at hp; cases hp
  have hrow : rowAt S o = some (e, sz, xs) := by simp [rowAt, ho, AObj.rowOf]
  have hsl := hv.sl_row hrow
  have hzl : (xs ++ ys).length = xs.length + ys.length := by simp
  have hgp : ∀ T : List D, (applyW S [(o, AObj.gone), (p, AObj.row e sz T)])[p]? = some (.row e sz T) := fun T => by
    have haw : applyW S [(o, AObj.gone), (p, AObj.row e sz T)] = (S.set o .gone).set p (.row e sz T) := rfl
    rw [haw, List.getElem?_set' _ _ _ _ (by simpa using hlp)]
    simp
  obtain ⟨γ1, m1, m2, m3, m4⟩ := move_row hI ho hp hpn
  -- the value, at its new number
  have hsl1 : SlOk γ1 w p e sz xs.length 0 xs.length v := by
    obtain ⟨h1, h2⟩ := hsl
    refine ⟨h1, h2.imp id ?_⟩
    rintro ⟨b, cap, cur, g1, g⟩
    exact ⟨b, cap, cur, m4.trans g1, g⟩
  by_cases hm : ys = []
  · subst hm
    obtain ⟨a, c, rfl, hc⟩ : ∃ a c, v = .slice a xs.length c ∧ xs.length ≤ c := by
      rcases hsl.2 with ⟨h0, a, rfl⟩ | ⟨b, cap, cur, _, rfl, hc, _⟩
      · exact ⟨a, 0, by rw [h0], by omega⟩
      · exact ⟨_, _, rfl, hc⟩
    simp only [List.append_nil, List.length_nil, Nat.add_zero]
    refine ⟨_, γ1, w, append_none ht hi hc hu, m1, m2, .sl p 0 xs.length (.row e sz xs) _ (by cases hv; assumption) (hgp xs) (.inr ⟨_, rfl⟩) fun e1 sz1 xs1 hr1 => by cases hr1; exact hsl1⟩
  have hmp : 0 < ys.length := List.length_pos_iff.2 hm
  obtain ⟨us, hus, hur, hu1, hu3⟩ := hu.at hys hm
  have hreads := sl_reads hI hrow hv
  simp only [List.drop_zero, List.take_length] at hreads
  -- it grows into a new block
  have grow : (∃ vs : Nat → Nat → Value, (∀ x ∈ xs, x.cells.length = sz ∧ ∀ y ∈ x.cells, y.one = true) ∧ (∀ (i j : Nat) (x y : D), xs[i]? = some x → x.cells[j]? = some y → RD γ.fz w y (vs i j)) ∧
      ((xs = [] ∧ v = .slice none 0 0) ∨ (∃ a cap, v = .slice (some a) xs.length cap ∧ cap < xs.length + ys.length ∧ cap ≤ maxLen ∧ ∀ k u, (flat xs.length sz vs)[k]? = some u → w.cell? (a.add k) = some u))) →
      ∃ v' γ' w', (Builtin.append_ #[t, t] ty #[v, u]).run P w = .ok v' w' ∧ Inv γ' (applyW S [(o, .gone), (p, .row e sz (xs ++ ys))]) w' ∧
      Ext S.length γ S w γ' (applyW S [(o, .gone), (p, .row e sz (xs ++ ys))]) w' ∧ RV γ' (applyW S [(o, .gone), (p, .row e sz (xs ++ ys))]) w' (.sl p 0 (xs.length + ys.length)) v' := by
    rintro ⟨vs, hvs, hvr, hv3⟩
    obtain ⟨cap, rest, hrun, hcap, hmax, hsize⟩ := append_world (ty := ty) ht hi hz hzs hsz hv3 hu3 hmp h63 hb
    obtain ⟨k1, k2⟩ := kill_row hI ho
    have hp' : (S.set o AObj.gone)[p]? = some .dead := by rw [List.getElem?_set_ne hne]; exact hp
    have hpn' : (γ.at o none).mu p = none := by simp [Gh.at, Ne.symm hne, hpn]
    obtain ⟨γ', g1, g2, g3⟩ := new_list (γ := γ.at o none) (S := S.set o .gone) (w := w) k1 hp' (.inl ⟨rfl, hpn'⟩) true (e := e) (sz := sz) (cap := cap) (zs := xs ++ ys) (vs := both xs.length vs us) (rest := rest) (fun _ => rfl) (fun _ _ _ h => by cases h)
      (w0 := w.drew) (.inr rfl) (by rw [hzl]; exact hcap) hmax (sizes_append hvs hus) (reads_append hvr hur) (by rw [hzl]; exact hsize)
    simp only [newList, if_true] at g1 g2 g3
    rw [hzl] at g1 g2 g3
    exact ⟨_, γ', _, hrun, g1, k2.trans (g2.less (by simp)), g3⟩
  rcases hsl.2 with ⟨h0, a, rfl⟩ | ⟨b, cap, cur, hmu, rfl, hnc, hcm, hg, hcs⟩
  · have hxe : xs = [] := List.eq_nil_of_length_eq_zero h0
    subst hxe
    refine grow ⟨fun _ _ => undef, fun _ h => by simp at h, fun i j x y h => by simp at h, ?_⟩
    cases a with
    | none => exact .inl ⟨rfl, rfl⟩
    | some a => exact .inr ⟨a, 0, rfl, by simpa using hmp, by simp, fun k u hk => by simp [flat] at hk⟩
  · simp only [Nat.zero_mul, Nat.zero_add] at hcs hv hsl hreads grow hsl1 ⊢
    obtain ⟨cur', q0, q1, q2, q3⟩ := row_cells hI ho rfl hmu
    rw [hg] at q0
    cases q0
    by_cases hroom : xs.length + ys.length ≤ cap
    · obtain ⟨a, c, rfl, hnews⟩ := hu3
      subst hsz
      have hnl : (flat ys.length i.size us).length = ys.length * i.size := flat_length ..
      have hfit : xs.length * i.size + (flat ys.length i.size us).length ≤ cur.size := by rw [hnl, ← hcs, ← Nat.add_mul]; exact Nat.mul_le_mul_right _ hroom
      have hrun := run_append_room (P := P) w t ty e i ht hi b xs.length cap cur hg a ys.length c (flat ys.length i.size us) hnl hnews hu1 hroom hfit
      have hg1 : γ1.mu p = some b := m4.trans hmu
      have hpc := putCells_length (cs := cur.toList) (off := xs.length * i.size) (vs := flat ys.length i.size us) (by simpa using hfit)
      obtain ⟨r1, r2⟩ := row_write (xs' := xs ++ ys) (cur' := (putCells cur.toList (xs.length * i.size) (flat ys.length i.size us)).toArray) m1 (hgp xs) hg1 hg (by rw [List.size_toArray, hpc]; simp) (by simp) (by
        refine ⟨sizes_append q1 hus, ?_, fun k j x y hx hy => ?_⟩
        · rw [List.size_toArray, hpc, hzl, Nat.add_mul]
          rw [hnl] at hfit
          simpa using hfit
        · rw [List.getElem?_toArray, putCells_get (by simpa using hfit)]
          have hxs := sizes_append q1 hus x (List.mem_of_getElem? hx)
          have hj : j < i.size := by have := (List.getElem?_eq_some_iff.1 hy).1; omega
          by_cases hk : k < xs.length
          · rw [List.getElem?_append_left hk] at hx
            have := idx_lt (sz := i.size) hk hj
            rw [if_neg (by omega)]
            rw [m3]
            simpa using q3 k j x y hx hy
          · rw [List.getElem?_append_right (by omega)] at hx
            have hkl := (List.getElem?_eq_some_iff.1 hx).1
            have h1 := idx_lt (sz := i.size) hkl hj
            have h2 : k * i.size = xs.length * i.size + (k - xs.length) * i.size := by rw [← Nat.add_mul]; congr 1; omega
            rw [if_pos ⟨by omega, by rw [hnl]; omega⟩]
            have e1 : k * i.size + j - xs.length * i.size = (k - xs.length) * i.size + j := by omega
            rw [e1, m3]
            exact ⟨_, flat_get us hkl hj, hur _ j x y hx hy⟩)
      have hset : (applyW S [(o, AObj.gone), (p, AObj.row e i.size xs)]).set p (.row e i.size (xs ++ ys)) = applyW S [(o, .gone), (p, .row e i.size (xs ++ ys))] := by
        show ((S.set o .gone).set p (.row e i.size xs)).set p (.row e i.size (xs ++ ys)) = (S.set o .gone).set p (.row e i.size (xs ++ ys))
        rw [List.set_set]
      rw [hset] at r1 r2
      refine ⟨_, γ1, _, hrun, r1, m2.trans (r2.less (by simp [applyW_length])), .sl p 0 (xs.length + ys.length) (.row e i.size (xs ++ ys)) _ .some (hgp _) (.inr ⟨_, rfl⟩) fun e1 sz1 xs1 hr1 => ?_⟩
      cases hr1
      refine ⟨by simp, .inr ⟨b, cap, _, hg1, by simp, hroom, hcm, setRow_heap w b cur _ e _ hg, ?_⟩⟩
      simp only [Nat.zero_add, List.size_toArray, List.length_append, List.length_take, List.length_drop, Array.length_toList]
      rw [hcs]
      rw [hnl] at hfit ⊢
      omega
    · refine grow ⟨cellsAt cur sz 0, q1, fun k j x y hx hy => ?_, .inr ⟨⟨b, 0, none⟩, cap, rfl, by omega, hcm, fun k u hk => ?_⟩⟩
      · obtain ⟨v, h1, h2⟩ := q3 k j x y hx hy
        simpa [cellsAt, h1] using h2
      · obtain ⟨k, j, hi, hj, rfl, rfl⟩ := flat_inv _ hk
        rw [Addr.add_lit, cell_of_row w b _ cur e _ hg]
        have := idx_lt hi hj
        have hlt : k * sz + j < cur.size := by omega
        simp [cellsAt, hlt]

end
end Go.Wm
