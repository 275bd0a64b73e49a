/-
  A part of the proof: an abstract run of the program, shown to be what the model does, and what it comes to.
-/
import Derived.Test.YtmfjfejjegemaaaGreatDoorWmH
set_option linter.unusedVariables false
set_option linter.unusedSimpArgs false
set_option linter.unnecessarySimpa false
set_option linter.defProp false
set_option linter.unusedSectionVars false
namespace Go.Wm
open Go
variable [GlobReq]

section
variable {P : Program} {γ : Gh} {S : St} {w : World}

/-- the world behind an append that makes a new row -/
theorem append_world {t ty e : TypeId} {i : TypeInfo} {z : Value} (ht : P.underlying t = some (.slice e)) (hi : P.info? e = some i) (hz : i.zero = some z) (hzs : z.cells.size = i.size)
    {v u : Value} {sz : Nat} {xs ys : List D} (hsz : i.size = sz) {vs us : Nat → Nat → Value}
    (hv : (xs = [] ∧ v = .slice none 0 0) ∨ (∃ a cap, v = .slice (some a) xs.length cap ∧ cap < xs.length + ys.length ∧ cap ≤ maxLen ∧ ∀ k u, (flat xs.length sz vs)[k]? = some u → w.cell? (a.add k) = some u))
    (hu : ∃ a c, u = .slice (some a) ys.length c ∧ ∀ k u, (flat ys.length sz us)[k]? = some u → w.cell? (a.add k) = some u)
    (hm : 0 < ys.length) (h63 : xs.length + ys.length ≤ maxLen) (hb : (xs.length + ys.length) * i.bytes ≤ 140737488355328) :
    ∃ cap rest, (Builtin.append_ #[t, t] ty #[v, u]).run P w = .ok (.slice (some ⟨w.heap.size, 0, none⟩) (xs.length + ys.length) cap)
        (w.drew.alloc (.cells (flat (xs.length + ys.length) sz (both xs.length vs us) ++ rest).toArray e)) ∧ xs.length + ys.length ≤ cap ∧ cap ≤ maxLen ∧
      (flat (xs.length + ys.length) sz (both xs.length vs us) ++ rest).toArray.size = cap * sz := by
  obtain ⟨a, c, rfl, hnews⟩ := hu
  subst hsz
  have hml : maxLen = 9223372036854775807 := by decide
  have hnl := flat_length ys.length i.size us
  rcases hv with ⟨rfl, rfl⟩ | ⟨a', cap, rfl, hcap, _, holds⟩
  · simp only [List.length_nil, Nat.zero_add] at h63 hb ⊢
    have hr := run_append_nil (P := P) w t ty e i z ht hi hz a ys.length c (flat ys.length i.size us) hnl hnews hm (by omega) (by omega)
    have hge := grownCap_ge w ys.length 0 e
    refine ⟨_, (Builtin.zeroCells z.cells (grownCap w ys.length 0 e - ys.length)).toList, ?_, hge, grownCap_le_maxLen w _ 0 e h63, ?_⟩
    · rw [hr]
      have hf := flat_both 0 ys.length i.size vs us
      simp only [Nat.zero_add] at hf
      rw [← hf]
      simp only [flat, Nat.zero_mul, List.range_zero, List.map_nil, List.nil_append]
      congr 3
      apply Array.ext'
      simp
    · simp only [List.size_toArray, List.length_append, flat_length, Array.length_toList, size_zeroCells, hzs, ← Nat.add_mul]
      congr 1; omega
  · have hg : cap < xs.length + ys.length := hcap
    have hr := run_append_grow (P := P) w t ty e i z ht hi hz a' xs.length cap (flat xs.length i.size vs) (flat_length ..) holds a ys.length c (flat ys.length i.size us) hnl hnews hg (by omega) (growslice_fits hg hb)
    have hge := grownCap_ge w (xs.length + ys.length) cap e
    refine ⟨_, (Builtin.zeroCells z.cells (grownCap w (xs.length + ys.length) cap e - (xs.length + ys.length))).toList, ?_, hge, grownCap_le_maxLen w _ cap e h63, ?_⟩
    · rw [hr]
      rw [← flat_both]
      congr 3
      apply Array.ext'
      simp
    · simp only [List.size_toArray, List.length_append, flat_length, Array.length_toList, size_zeroCells, hzs, ← Nat.add_mul]
      congr 1; omega

/-- a new frozen row behind a draw, its elements read -/
theorem row_read {sz cap : Nat} {zs : List D} {vs : Nat → Nat → Value} {rest : List Value} {fz : Nat → Nat → Prop} {w' : World} {b : Nat}
    (hcell : ∀ k u, (flat zs.length sz vs ++ rest)[k]? = some u → w'.cell? ⟨b, k, none⟩ = some u) (hfz : ∀ k, k < zs.length * sz → fz b k)
    (hcap : zs.length ≤ cap) (hmax : cap ≤ maxLen) (hsz : ∀ x ∈ zs, x.cells.length = sz ∧ ∀ y ∈ x.cells, y.one = true)
    (hr : ∀ (i j : Nat) (x y : D), zs[i]? = some x → x.cells[j]? = some y → RD fz w' y (vs i j)) : RD fz w' (.sl zs) (.slice (some ⟨b, 0, none⟩) zs.length cap) :=
  RD.sl_mk (vs := vs) hcap hmax hsz (fun k u hk => by
    have hlt : k < zs.length * sz := by
      have := (List.getElem?_eq_some_iff.1 hk).1
      rwa [flat_length] at this
    rw [Nat.zero_add]
    exact ⟨hfz k hlt, hcell k u (by rw [List.getElem?_append_left (by rw [flat_length]; exact hlt)]; exact hk)⟩) hr


/-- a list in a block of its own, new in a world that has just drawn -/
theorem new_list (hI : Inv γ S w) {o : Nat} {ob0 : AObj} (ho : S[o]? = some ob0) (hold0 : (ob0 = .dead ∧ γ.mu o = none) ∨ ∃ e f sz, ob0 = .tok e f sz) (rows : Bool) {e sz cap : Nat} {zs : List D} {vs : Nat → Nat → Value} {rest : List Value}
    (hrows : rows = true → ob0 = .dead) (htok : ∀ e' f sz', ob0 = .tok e' f sz' → e' = e ∧ sz' = sz ∧ f < zs.length)
    {w0 : World} (hw0 : w0 = w ∨ w0 = w.drew)
    (hcap : zs.length ≤ cap) (hmax : cap ≤ maxLen) (hsz : ∀ x ∈ zs, x.cells.length = sz ∧ ∀ y ∈ x.cells, y.one = true)
    (hr : ∀ (i j : Nat) (x y : D), zs[i]? = some x → x.cells[j]? = some y → RD γ.fz w y (vs i j)) (hsize : (flat zs.length sz vs ++ rest).toArray.size = cap * sz) :
    ∃ γ', Inv γ' (applyW S (newList rows o e sz zs).2) (w0.alloc (.cells (flat zs.length sz vs ++ rest).toArray e)) ∧ Ext S.length γ S w γ' (applyW S (newList rows o e sz zs).2) (w0.alloc (.cells (flat zs.length sz vs ++ rest).toArray e)) ∧
      RV γ' (applyW S (newList rows o e sz zs).2) (w0.alloc (.cells (flat zs.length sz vs ++ rest).toArray e)) (newList rows o e sz zs).1 (.slice (some ⟨w.heap.size, 0, none⟩) zs.length cap) := by
  have hlt : o < S.length := (List.getElem?_eq_some_iff.1 ho).1
  have hfull' : zs.length * sz ≤ (flat zs.length sz vs ++ rest).toArray.size := by
    rw [hsize]; exact Nat.mul_le_mul_right _ hcap
  have h0s : w0.heap.size = w.heap.size := by rcases hw0 with rfl | rfl <;> simp
  have h0h : ∀ b : Nat, w0.heap[b]? = w.heap[b]? := fun b => by rcases hw0 with rfl | rfl <;> rfl
  have h01 : w0.os = w.os ∧ w0.output = w.output ∧ w0.tape = w.tape := by rcases hw0 with rfl | rfl <;> exact ⟨rfl, rfl, rfl⟩
  generalize hcs : (flat zs.length sz vs ++ rest).toArray = cs at hfull' hsize
  have hcg : ∀ k u, (flat zs.length sz vs)[k]? = some u → cs[k]? = some u := fun k u hk => by
    have := (List.getElem?_eq_some_iff.1 hk).1
    rw [← hcs, List.getElem?_toArray, List.getElem?_append_left this]
    exact hk
  clear hcs
  generalize hw' : w0.alloc (.cells cs e) = w'
  have hold : ∀ b, b < w.heap.size → w'.heap[b]? = w.heap[b]? := fun b hb => by rw [← hw', ← h0h]; exact heap_alloc_old w0 _ b (by omega)
  have hws : w'.heap.size = w.heap.size + 1 := by rw [← hw']; simp [h0s]
  have hnewb : w'.heap[w.heap.size]? = some (.cells cs e (0, 0)) := by rw [← hw', ← h0s]; exact heap_alloc_new w0 _
  have hcell : ∀ k, w'.cell? ⟨w.heap.size, k, none⟩ = cs[k]? := fun k => cell_of_row w' _ k cs e _ hnewb
  have hos : w'.os = w.os ∧ w'.output = w.output ∧ w'.tape = w.tape := by rw [← hw']; exact h01
  cases rows with
  | true =>
    have hd := hrows rfl
    subst hd
    have hnone : γ.mu o = none := by
      rcases hold0 with ⟨_, h⟩ | ⟨_, _, _, h⟩
      · exact h
      · cases h
    simp only [newList, if_true]
    have haw : applyW S [(o, AObj.row e sz zs)] = S.set o (.row e sz zs) := rfl
    rw [haw]
    obtain ⟨hInv, he⟩ := fill (γ' := γ.at o (some w.heap.size)) (w' := w') hI ho hnone (.row e sz zs) (fun h => by cases h) (fun j hj => by simp [Gh.at, hj]) (fun b hb => by simp [Gh.at] at hb; subst hb; omega) hold (by omega)
      (fun _ _ h => h) (fun _ _ h => .inl h) hos.1 hos.2.1 hos.2.2 (fun he => by
        refine ⟨fun hn => by simp [Gh.at] at hn, fun b hb => ?_⟩
        simp [Gh.at] at hb
        subst hb
        refine ⟨⟨cs, hnewb, hsz, hfull', fun i j x y hx hy => ?_⟩, fun off hf => absurd (hI.fz_lt (b := w.heap.size) (o := off) hf) (Nat.lt_irrefl _)⟩
        have hi := (List.getElem?_eq_some_iff.1 hx).1
        have hj : j < sz := by
          have := (List.getElem?_eq_some_iff.1 hy).1
          have := (hsz x (List.mem_of_getElem? hx)).1; omega
        exact ⟨_, hcg _ _ (flat_get vs hi hj), (hr i j x y hx hy).mono he.fz he.cell⟩)
    refine ⟨_, hInv, he, .sl o 0 zs.length (.row e sz zs) _ .some (by rw [List.getElem?_set]; simp [hlt]) (.inr ⟨_, rfl⟩) fun e1 sz1 xs1 h1 => ?_⟩
    cases h1
    exact ⟨by omega, .inr ⟨w.heap.size, cap, cs, by simp [Gh.at], by simp, hcap, hmax, hnewb, by rw [Nat.zero_add]; exact hsize.symm⟩⟩
  | false =>
    simp only [newList, Bool.false_eq_true, if_false]
    have haw : applyW S [(o, AObj.tok e zs.length sz)] = S.set o (.tok e zs.length sz) := rfl
    rw [haw]
    let γ' : Gh := { mu := fun i => if i = o then some w.heap.size else γ.mu i, fz := fun c k => γ.fz c k ∨ (c = w.heap.size ∧ k < zs.length * sz), gl := γ.gl }
    obtain ⟨hInv, he⟩ := renew (γ' := γ') (w' := w') hI ho (.tok e zs.length sz) (fun j hj => by simp [γ', hj]) (fun b hb => by simp [γ'] at hb; subst hb; omega) hold (by omega)
      (fun _ _ h => .inl h) (fun b k h => h.imp id fun h => ⟨by rw [h.1]; exact Nat.le_refl _, by
        obtain ⟨rfl, h⟩ := h
        have hlt : k < cs.size := by omega
        exact ⟨cs[k], by rw [hcell]; simp [hlt]⟩⟩) hos.1 hos.2.1 hos.2.2
      (by
        rcases hold0 with ⟨rfl, _⟩ | ⟨e', f, sz', rfl⟩
        · intro h; cases h
        · obtain ⟨rfl, rfl, hf⟩ := htok _ _ _ rfl
          exact ⟨zs.length, rfl, by omega, fun h => by omega⟩)
      (fun _ b hbb => by
        simp [γ'] at hbb
        subst hbb
        refine ⟨⟨_, hnewb⟩, fun off hoff hf => ?_⟩
        rcases hf with hf | ⟨_, hf⟩
        · exact absurd (hI.fz_lt hf) (Nat.lt_irrefl _)
        · omega)
    refine ⟨γ', hInv, he, ?_⟩
    have hrd : RD γ'.fz w' (.sl zs) (.slice (some ⟨w.heap.size, 0, none⟩) zs.length cap) :=
      RD.sl_mk (vs := vs) hcap hmax hsz (fun k u hk => by
        rw [Nat.zero_add]
        have := (List.getElem?_eq_some_iff.1 hk).1
        rw [flat_length] at this
        exact ⟨.inr ⟨rfl, this⟩, by rw [hcell]; exact hcg k u hk⟩) (fun i j x y hx hy => (hr i j x y hx hy).mono he.fz he.cell)
    refine .own o e sz zs.length zs _ (by rw [List.getElem?_set]; simp [hlt]) (Nat.le_refl _) hrd (fun _ => ?_) (fun x hx => (hsz x hx).1)
    exact .inr (.inr ⟨w.heap.size, cap, cs, by simp [γ'], rfl, hnewb, hcap, hmax, hsize⟩)
end
end Go.Wm
