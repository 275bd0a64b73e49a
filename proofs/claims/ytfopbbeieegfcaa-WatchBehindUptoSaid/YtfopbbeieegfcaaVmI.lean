/-
  A part of the proof: an abstract run of the program, shown to be what the model does, and what it comes to.
-/
import Derived.Test.YtfopbbeieegfcaaVmH
set_option linter.unusedVariables false
set_option linter.unusedSimpArgs false
set_option linter.unusedSectionVars false
set_option linter.unnecessarySimpa false
namespace Go.Vm
open Go

section
variable {P : Program} {γ : Gh} {S : St} {w : World}

/-- append of nothing -/
theorem append_none {t ty e : TypeId} {i : TypeInfo} (ht : P.underlying t = some (.slice e)) (hi : P.info? e = some i)
    {v u : Value} {nn nn' : Bool} {sz : Nat} {xs : List D} (hv : RD γ.fz w (.sl nn sz xs) v) (hu : RD γ.fz w (.sl nn' sz []) u) : (Builtin.append_ #[t, t] ty #[v, u]).run P w = .ok v w := by
  rcases hv.sl_inv with ⟨_, rfl, rfl⟩ | ⟨_, a, cap, vs, rfl, _, hcap, _⟩ <;> rcases hu.sl_inv with ⟨_, _, rfl⟩ | ⟨_, a', cap', vs', rfl, _⟩ <;>
    simp [Builtin.append_, run_underlying ht, sizeOf, typeInfo, Builtin.lenOf, Builtin.firstCells, loadCells, loadCellsFrom, storeCells, *]

theorem set_same {S : St} {t : Nat} {ob : AObj} (h : S[t]? = some ob) : S.set t ob = S := by
  apply List.ext_getElem?
  intro k
  rw [List.getElem?_set' _ _ _ _ (List.getElem?_eq_some_iff.1 h).1]
  by_cases hk : t = k
  · subst hk; simp [h]
  · simp [hk]

/-- append onto a slice with a token -/
theorem append_own {t ty e : TypeId} {i : TypeInfo} {z : Value} (ht : P.underlying t = some (.slice e)) (hi : P.info? e = some i) (hz : i.zero = some z) (hzs : z.cells.size = i.size)
    (hI : Inv γ S w) {v u : Value} {nn nn' : Bool} {sz o : Nat} {xs ys : List D} (hsz : i.size = sz) (hS : S[o]? = some (.tok e xs.length sz))
    (hv : RV γ S w (.own o nn sz xs) v) (hu : RD γ.fz w (.sl nn' sz ys) u) (h63 : xs.length + ys.length ≤ maxLen) (hb : (xs.length + ys.length) * i.bytes ≤ 140737488355328) :
    ∃ v' γ' w', (Builtin.append_ #[t, t] ty #[v, u]).run P w = .ok v' w' ∧ Inv γ' (S.set o (.tok e (xs.length + ys.length) sz)) w' ∧
      Ext S.length γ S w γ' (S.set o (.tok e (xs.length + ys.length) sz)) w' ∧ RV γ' (S.set o (.tok e (xs.length + ys.length) sz)) w' (.own o nn sz (xs ++ ys)) v' := by
  have hlt : o < S.length := (List.getElem?_eq_some_iff.1 hS).1
  obtain ⟨hd, hk⟩ : RD γ.fz w (.sl (nn && xs.isEmpty) sz xs) v ∧ TokOk γ w o e sz xs.length v := by
    cases hv with
    | own _ _ e' _ f _ _ ht' hf hd hk =>
      rw [hS] at ht'
      cases ht'
      exact ⟨hd, hk rfl⟩
  by_cases hm : ys = []
  · subst hm
    have hset : S.set o (.tok e (xs.length + ([] : List D).length) sz) = S := by
      simp only [List.length_nil, Nat.add_zero]
      exact set_same hS
    rw [hset]
    refine ⟨v, γ, w, append_none ht hi hd hu, hI, Ext.refl (Nat.le_refl _), ?_⟩
    rw [List.append_nil]
    exact hv
  have hmp : 0 < ys.length := List.length_pos_iff.2 hm
  have hzl : (xs ++ ys).length = xs.length + ys.length := by simp
  obtain ⟨vs, hvs, hvr, _, hv2⟩ := hd.sl_cells
  obtain ⟨us, hus, hur, hu1, hu2⟩ := hu.sl_cells
  have hu3 : ∃ a c, u = .slice (some a) ys.length c ∧ ∀ k u, (flat ys.length sz us)[k]? = some u → w.cell? (a.add k) = some u := by
    rcases hu2 with ⟨_, h, _⟩ | ⟨_, a, c, h, _, _, _, h2⟩
    · exact absurd h hm
    · exact ⟨a, c, h, fun k u hk => (h2 k u hk).2⟩
  have grow : (((nn && xs.isEmpty) = true ∧ xs = [] ∧ v = .slice none 0 0) ∨ ((nn && xs.isEmpty) = false ∧ ∃ a cap, v = .slice (some a) xs.length cap ∧ cap < xs.length + ys.length ∧ cap ≤ maxLen ∧ ∀ k u, (flat xs.length sz vs)[k]? = some u → w.cell? (a.add k) = some u)) →
      ∃ v' γ' w', (Builtin.append_ #[t, t] ty #[v, u]).run P w = .ok v' w' ∧ Inv γ' (S.set o (.tok e (xs.length + ys.length) sz)) w' ∧
      Ext S.length γ S w γ' (S.set o (.tok e (xs.length + ys.length) sz)) w' ∧ RV γ' (S.set o (.tok e (xs.length + ys.length) sz)) w' (.own o nn sz (xs ++ ys)) v' := by
    intro hv3
    obtain ⟨cap, rest, hrun, hcap, hmax, hsize⟩ := append_world (ty := ty) ht hi hz hzs hsz hv3 hu3 hmp h63 hb
    have key : ∀ k u, (flat (xs.length + ys.length) sz (both xs.length vs us) ++ rest)[k]? = some u →
        (w.drew.alloc (.cells (flat (xs.length + ys.length) sz (both xs.length vs us) ++ rest).toArray e)).cell? ⟨w.heap.size, k, none⟩ = some u := fun k u hk => by
      have := World.cell?_alloc_new w.drew (flat (xs.length + ys.length) sz (both xs.length vs us) ++ rest).toArray e k
      simp only [World.size_drew] at this
      rw [this]
      simpa using hk
    have hfull' : (xs.length + ys.length) * sz ≤ (flat (xs.length + ys.length) sz (both xs.length vs us) ++ rest).toArray.size := by
      rw [hsize]; exact Nat.mul_le_mul_right _ hcap
    generalize hw' : w.drew.alloc (.cells (flat (xs.length + ys.length) sz (both xs.length vs us) ++ rest).toArray e) = w' at hrun key
    have hold : ∀ b, b < w.heap.size → w'.heap[b]? = w.heap[b]? := fun b hb => by rw [← hw']; exact heap_alloc_old w.drew _ b hb
    have hws : w'.heap.size = w.heap.size + 1 := by rw [← hw']; simp
    have hnewb : w'.heap[w.heap.size]? = some (.cells (flat (xs.length + ys.length) sz (both xs.length vs us) ++ rest).toArray e (0, 0)) := by rw [← hw']; exact heap_alloc_new w.drew _
    let γ' : Gh := { mu := fun i => if i = o then some w.heap.size else γ.mu i, fz := fun c k => γ.fz c k ∨ (c = w.heap.size ∧ k < (xs.length + ys.length) * sz) }
    have hmu : ∀ j, j ≠ o → γ'.mu j = γ.mu j := fun j hj => by simp [γ', hj]
    have hmuo : γ'.mu o = some w.heap.size := by simp [γ']
    have hget : ∀ j, (S.set o (AObj.tok e (xs.length + ys.length) sz))[j]? = if o = j then some (.tok e (xs.length + ys.length) sz) else S[j]? := fun j => List.getElem?_set' _ _ _ _ hlt
    have he : Ext S.length γ S w γ' (S.set o (.tok e (xs.length + ys.length) sz)) w' := by
      refine ⟨Nat.le_refl _, by simp, fun _ _ h => .inl h, fun b k h => cell_of_heap (hold b (hI.fz_lt h)) k, by omega, fun j ob hj hob => ?_, fun b hb _ => hold b hb, fun b ⟨j, hj, hbj⟩ => ?_, fun b k h => h.imp id fun h => .inl (by rw [h.1]; exact Nat.le_refl _), by rw [← hw']; rfl, by rw [← hw']; rfl, by rw [← hw']; rfl⟩
      · by_cases hjo : o = j
        · subst hjo
          rw [hS] at hob
          cases hob
          exact ⟨xs.length + ys.length, by rw [hget]; simp, by omega, fun h => by omega⟩
        · have hS' : (S.set o (AObj.tok e (xs.length + ys.length) sz))[j]? = some ob := by rw [hget, if_neg hjo]; exact hob
          cases ob with
          | box cs => exact ⟨hmu j (Ne.symm hjo), cs, hS'⟩
          | tok e f sz => exact ⟨f, hS', Nat.le_refl _, fun _ => ⟨hmu j (Ne.symm hjo), fun b hb => hold b (hI.lt j b hj hb)⟩⟩
          | dead => exact fun _ => hmu j (Ne.symm hjo)
      · by_cases hjo : j = o
        · subst hjo
          rw [hmuo] at hbj
          cases hbj
          exact .inr (Nat.le_refl _)
        · exact .inl ⟨j, by simpa using hj, (hmu j hjo) ▸ hbj⟩
    have hbl : ∀ j b, j < S.length → γ.mu j = some b → b < w.heap.size := fun j b hj hb => hI.lt j b hj hb
    have hInv : Inv γ' (S.set o (.tok e (xs.length + ys.length) sz)) w' := by
      refine ⟨fun j ob hob => ?_, fun j j' b h1 h2 h3 h4 => ?_, fun b k h => ?_, fun j b hj hb => ?_⟩
      · rw [hget] at hob
        by_cases hjo : o = j
        · subst hjo
          rw [if_pos rfl] at hob
          cases hob
          intro b hbb
          rw [hmuo] at hbb
          cases hbb
          refine ⟨⟨_, hnewb⟩, fun off hoff hf => ?_⟩
          rcases hf with hf | ⟨_, hf⟩
          · exact absurd (hI.fz_lt hf) (Nat.lt_irrefl _)
          · omega
        · rw [if_neg hjo] at hob
          have hj : j < S.length := (List.getElem?_eq_some_iff.1 hob).1
          refine (hI.obj j ob hob).mono he (hmu j (Ne.symm hjo)) fun b hb => ⟨hold b (hbl j b hj hb), fun off hf => ?_⟩
          rcases hf with hf | ⟨hf, _⟩
          · exact hf
          · have := hbl j b hj hb; omega
      · simp at h1 h2
        by_cases k1 : j = o
        · by_cases k2 : j' = o
          · rw [k1, k2]
          · rw [k1, hmuo] at h3
            cases h3
            rw [hmu j' k2] at h4
            exact absurd (hbl j' _ h2 h4) (Nat.lt_irrefl _)
        · rw [hmu j k1] at h3
          by_cases k2 : j' = o
          · rw [k2, hmuo] at h4
            cases h4
            exact absurd (hbl j _ h1 h3) (Nat.lt_irrefl _)
          · rw [hmu j' k2] at h4
            exact hI.inj j j' b h1 h2 h3 h4
      · rcases h with h | ⟨rfl, h⟩
        · obtain ⟨x, hx⟩ := hI.fzin b k h
          exact ⟨x, (cell_of_heap (hold b (hI.fz_lt h)) k).trans hx⟩
        · have hlt : k < (flat (xs.length + ys.length) sz (both xs.length vs us) ++ rest).length := by simp only [List.size_toArray] at hfull'; omega
          exact ⟨_, key k _ (List.getElem?_eq_getElem hlt)⟩
      · simp at hj
        by_cases k1 : j = o
        · rw [k1, hmuo] at hb
          cases hb
          omega
        · rw [hmu j k1] at hb
          have := hbl j b hj hb
          omega
    refine ⟨_, γ', w', hrun, hInv, he, ?_⟩
    have hrd : RD γ'.fz w' (.sl false sz (xs ++ ys)) (.slice (some ⟨w.heap.size, 0, none⟩) (xs.length + ys.length) cap) := by
      have := row_read (zs := xs ++ ys) (sz := sz) (cap := cap) (vs := both xs.length vs us) (rest := rest) (fz := γ'.fz) (b := w.heap.size)
        (w' := w') (by rw [hzl]; exact key) (fun k hk => .inr ⟨rfl, by rw [hzl] at hk; exact hk⟩) (by rw [hzl]; exact hcap) hmax
        (sizes_append hvs hus) (fun i j x y hx hy => (reads_append hvr hur i j x y hx hy).mono he.fz he.cell)
      rwa [hzl] at this
    refine .own o nn e sz (xs.length + ys.length) (xs ++ ys) _ (by rw [hget]; simp) (by simp) ?_ fun _ => ?_
    · rw [not_empty_of hmp]; exact hrd
    · rw [hzl]
      exact .inr (.inr ⟨w.heap.size, cap, _, hmuo, rfl, hnewb, hcap, hmax, hsize⟩)
  rcases hk with hk | ⟨a, hk⟩ | ⟨b, cap, cur, hmu, rfl, hg, hnc, hcm, hcs⟩
  · refine grow ?_
    rcases hv2 with h | ⟨h1, a, c, h2, _⟩
    · exact .inl h
    · rw [hk] at h2; cases h2
  · refine grow ?_
    rcases hv2 with h | ⟨h1, a', c, h2, _, _, h5, h6⟩
    · exact .inl h
    · rw [hk] at h2
      cases h2
      exact .inr ⟨h1, _, xs.length, hk, by omega, h5, fun k u hk => (h6 k u hk).2⟩
  · by_cases hroom : xs.length + ys.length ≤ cap
    · -- in place
      obtain ⟨a, c, rfl, hnews⟩ := hu3
      have hv4 : (nn && xs.isEmpty) = false ∧ ∀ k u, (flat xs.length sz vs)[k]? = some u → γ.fz b k ∧ w.cell? ⟨b, k, none⟩ = some u := by
        rcases hv2 with ⟨_, _, h⟩ | ⟨h1, a', c', h2, _, _, _, h6⟩
        · cases h
        · cases h2
          refine ⟨h1, fun k u hk => ?_⟩
          have := h6 k u hk
          rw [Addr.add_lit, Nat.zero_add] at this
          exact this
      subst hsz
      have hnl : (flat ys.length i.size us).length = ys.length * i.size := flat_length ..
      have hfit : xs.length * i.size + (flat ys.length i.size us).length ≤ cur.size := by rw [hnl, hcs, ← Nat.add_mul]; exact Nat.mul_le_mul_right _ hroom
      have hrun := run_append_room (P := P) w t ty e i ht hi b xs.length cap cur hg a ys.length c (flat ys.length i.size us) hnl hnews hu1 hroom hfit
      generalize hcur : (cur.toList.take (xs.length * i.size) ++ flat ys.length i.size us ++ cur.toList.drop (xs.length * i.size + (flat ys.length i.size us).length)).toArray = cur' at hrun
      have hcs' : cur'.size = cap * i.size := by
        rw [← hcur, ← hcs]
        simp only [List.size_toArray, List.length_append, List.length_take, List.length_drop, Array.length_toList]
        omega
      have hlow : ∀ k, k < xs.length * i.size → cur'[k]? = cur[k]? := fun k hk => by
        rw [← hcur]
        simp only [List.getElem?_toArray, List.append_assoc]
        rw [List.getElem?_append_left (by simp; omega), List.getElem?_take, if_pos hk, Array.getElem?_toList]
      have hnew : ∀ k u, (flat ys.length i.size us)[k]? = some u → cur'[xs.length * i.size + k]? = some u := fun k u hk => by
        have hkl := (List.getElem?_eq_some_iff.1 hk).1
        rw [← hcur]
        simp only [List.getElem?_toArray, List.append_assoc]
        rw [List.getElem?_append_right (by simp; omega)]
        have e1 : (cur.toList.take (xs.length * i.size)).length = xs.length * i.size := by simp; omega
        rw [e1, Nat.add_sub_cancel_left, List.getElem?_append_left hkl]
        exact hk
      have hb' := setRow_get w b cur cur' e (0, 0) hg
      have hcell' : ∀ k, (w.setRow b cur').cell? ⟨b, k, none⟩ = cur'[k]? := fun k => cell_of_row _ b k cur' e _ hb'
      have hcell : ∀ k, w.cell? ⟨b, k, none⟩ = cur[k]? := fun k => cell_of_row _ b k cur e _ hg
      let γ' : Gh := { mu := γ.mu, fz := fun c k => γ.fz c k ∨ (c = b ∧ k < (xs.length + ys.length) * i.size) }
      have hfzb : ∀ off, γ.fz b off → off < xs.length * i.size := fun off hf => by
        have := (hI.obj o _ hS) b hmu
        by_cases h : off < xs.length * i.size
        · exact h
        · exact absurd hf (this.2 off (by omega))
      have he : Ext S.length γ S w γ' (S.set o (.tok e (xs.length + ys.length) i.size)) (w.setRow b cur') :=
        Ext.setObj (γ' := γ') hI hS hmu (fun _ _ => rfl) (by simp) (fun c hc => setRow_other w b c _ hc) (fun _ _ h => .inl h) (fun c k h => h.imp id fun h => h.1)
          (fun off hf => by rw [hcell', hcell]; exact hlow off (hfzb off hf)) ⟨xs.length + ys.length, rfl, by omega, fun h => by omega⟩ rfl rfl rfl
      have hsz' : (xs.length + ys.length) * i.size ≤ cur'.size := by rw [hcs']; exact Nat.mul_le_mul_right _ hroom
      have hInv : Inv γ' (S.set o (.tok e (xs.length + ys.length) i.size)) (w.setRow b cur') := by
        refine Inv.setObj (γ' := γ') hI hS hmu (fun _ _ => rfl) (by simp) (fun c hc => setRow_other w b c _ hc) (fun c k h => h.imp id fun h => ⟨h.1, ?_⟩) he ?_
        · rw [hcell']
          exact ⟨cur'[k]'(by omega), by simp⟩
        · intro b2 hb2
          have : b2 = b := by have h := hb2; simp only [γ', hmu] at h; exact (Option.some.inj h).symm
          subst this
          refine ⟨⟨cur', hb'⟩, fun off hoff hf => ?_⟩
          rcases hf with hf | ⟨_, hf⟩
          · have := hfzb off hf
            rw [Nat.add_mul] at hoff
            omega
          · omega
      refine ⟨_, γ', _, hrun, hInv, he, ?_⟩
      have hfl : ∀ k u, (flat (xs ++ ys).length i.size (both xs.length vs us))[k]? = some u → cur'[k]? = some u := fun k u hk => by
        rw [hzl, ← flat_both] at hk
        by_cases h : k < xs.length * i.size
        · rw [List.getElem?_append_left (by rw [flat_length]; exact h)] at hk
          rw [hlow k h, ← hcell]
          exact (hv4.2 k u hk).2
        · rw [List.getElem?_append_right (by rw [flat_length]; omega), flat_length] at hk
          have := hnew _ u hk
          rwa [show xs.length * i.size + (k - xs.length * i.size) = k by omega] at this
      have hrd : RD γ'.fz (w.setRow b cur') (.sl false i.size (xs ++ ys)) (.slice (some ⟨b, 0, none⟩) (xs ++ ys).length cap) :=
        RD.sl_mk (vs := both xs.length vs us) (by rw [hzl]; exact hroom) hcm (sizes_append hvs hus) (fun k u hk => by
          have hkl := (List.getElem?_eq_some_iff.1 hk).1
          rw [flat_length, hzl] at hkl
          rw [Nat.zero_add]
          exact ⟨.inr ⟨rfl, hkl⟩, by rw [hcell']; exact hfl k u hk⟩)
          (fun i j x y hx hy => (reads_append hvr hur i j x y hx hy).mono he.fz he.cell)
      rw [hzl] at hrd
      refine .own o nn e i.size (xs.length + ys.length) (xs ++ ys) _ (by rw [List.getElem?_set' _ _ _ _ hlt]; simp) (by simp) ?_ fun _ => ?_
      · rw [not_empty_of hmp]; exact hrd
      · rw [hzl]
        exact .inr (.inr ⟨b, cap, cur', hmu, rfl, hb', hroom, hcm, hcs'⟩)
    · refine grow ?_
      rcases hv2 with h | ⟨h1, a', c, h2, _, _, h5, h6⟩
      · exact .inl h
      · cases h2
        exact .inr ⟨h1, ⟨b, 0, none⟩, cap, rfl, by omega, h5, fun k u hk => (h6 k u hk).2⟩

end
end Go.Vm
