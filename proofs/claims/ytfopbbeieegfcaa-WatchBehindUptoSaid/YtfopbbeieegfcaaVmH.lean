/-
  A part of the proof: an abstract run of the program, shown to be what the model does, and what it comes to.
-/
import Derived.Test.YtfopbbeieegfcaaVmG
set_option linter.unusedVariables false
set_option linter.unusedSimpArgs false
set_option linter.unusedSectionVars false
set_option linter.unnecessarySimpa false
namespace Go.Vm
open Go

theorem div_of {i sz j : Nat} (hj : j < sz) : (i * sz + j) / sz = i ∧ (i * sz + j) % sz = j := by
  have h0 : 0 < sz := by omega
  constructor
  · rw [Nat.mul_comm, Nat.mul_add_div h0, Nat.div_eq_of_lt hj]; rfl
  · rw [Nat.mul_comm, Nat.mul_add_mod, Nat.mod_eq_of_lt hj]

theorem idx_lt {i n sz j : Nat} (hi : i < n) (hj : j < sz) : i * sz + j < n * sz := by
  have : (i + 1) * sz ≤ n * sz := Nat.mul_le_mul_right _ hi
  rw [Nat.add_mul, Nat.one_mul] at this
  omega

/-- the cells of a row of elements, flat -/
def flat (n sz : Nat) (vs : Nat → Nat → Value) : List Value := (List.range (n * sz)).map fun k => vs (k / sz) (k % sz)
theorem flat_length (n sz : Nat) (vs : Nat → Nat → Value) : (flat n sz vs).length = n * sz := by simp [flat]
theorem flat_get {n sz : Nat} (vs : Nat → Nat → Value) {i j : Nat} (hi : i < n) (hj : j < sz) : (flat n sz vs)[i * sz + j]? = some (vs i j) := by
  simp [flat, List.getElem?_range (idx_lt hi hj), div_of hj]
theorem flat_inv {n sz : Nat} (vs : Nat → Nat → Value) {k : Nat} {u : Value} (h : (flat n sz vs)[k]? = some u) : ∃ i j, i < n ∧ j < sz ∧ k = i * sz + j ∧ u = vs i j := by
  have hk : k < n * sz := by
    have := (List.getElem?_eq_some_iff.1 h).1
    simpa [flat] using this
  have h0 : 0 < sz := by
    rcases Nat.eq_zero_or_pos sz with rfl | h0
    · simp at hk
    · exact h0
  simp [flat, List.getElem?_range hk] at h
  refine ⟨k / sz, k % sz, (Nat.div_lt_iff_lt_mul h0).2 hk, Nat.mod_lt _ h0, ?_, h.symm⟩
  have := Nat.div_add_mod k sz
  rw [Nat.mul_comm] at this
  omega

/-- two rows, one behind the other -/
def both (n : Nat) (vs us : Nat → Nat → Value) (i j : Nat) : Value := if i < n then vs i j else us (i - n) j

theorem flat_both (n m sz : Nat) (vs us : Nat → Nat → Value) : flat n sz vs ++ flat m sz us = flat (n + m) sz (both n vs us) := by
  apply List.ext_getElem?
  intro k
  by_cases hk : k < n * sz
  · rw [List.getElem?_append_left (by rw [flat_length]; exact hk)]
    have h0 : 0 < sz := by
      rcases Nat.eq_zero_or_pos sz with rfl | h0
      · simp at hk
      · exact h0
    have hlt : k / sz < n := (Nat.div_lt_iff_lt_mul h0).2 hk
    have hk2 : k < (n + m) * sz := by rw [Nat.add_mul]; omega
    simp [flat, List.getElem?_range hk, List.getElem?_range hk2, both, hlt]
  · rw [List.getElem?_append_right (by rw [flat_length]; omega), flat_length]
    by_cases hk2 : k < (n + m) * sz
    · have h0 : 0 < sz := by
        rcases Nat.eq_zero_or_pos sz with rfl | h0
        · simp at hk2
        · exact h0
      have hk3 : k - n * sz < m * sz := by rw [Nat.add_mul] at hk2; omega
      have e : k = sz * n + (k - n * sz) := by rw [Nat.mul_comm sz n]; omega
      have e1 : k / sz = n + (k - n * sz) / sz := by
        conv => lhs; rw [e]
        exact Nat.mul_add_div h0 _ _
      have e2 : k % sz = (k - n * sz) % sz := by
        conv => lhs; rw [e]
        exact Nat.mul_add_mod _ _ _
      simp [flat, List.getElem?_range hk2, List.getElem?_range hk3, both, e1, e2]
      exact fun h => absurd h (Nat.not_lt.2 (Nat.le_add_right _ _))
    · rw [List.getElem?_eq_none (by rw [flat_length]; rw [Nat.add_mul] at hk2; omega), List.getElem?_eq_none (by rw [flat_length]; omega)]

/-- a row's cells at a place -/
theorem RD.sl_mk {fz : Nat → Nat → Prop} {w : World} {sz : Nat} {xs : List D} {b off cap : Nat} {vs : Nat → Nat → Value} (hcap : xs.length ≤ cap) (hmax : cap ≤ maxLen)
    (hsz : ∀ x ∈ xs, x.cells.length = sz ∧ ∀ y ∈ x.cells, y.one = true)
    (hc : ∀ k u, (flat xs.length sz vs)[k]? = some u → fz b (off + k) ∧ w.cell? ⟨b, off + k, none⟩ = some u)
    (hr : ∀ (i j : Nat) (x y : D), xs[i]? = some x → x.cells[j]? = some y → RD fz w y (vs i j)) : RD fz w (.sl false sz xs) (.slice (some ⟨b, off, none⟩) xs.length cap) :=
  .sl sz xs ⟨b, off, none⟩ cap vs (.inr rfl) hcap hmax hsz (fun i j hi hj => by
    have := hc (i * sz + j) (vs i j) (flat_get vs hi hj)
    rw [← Nat.add_assoc] at this
    exact this) hr

/-- what is read of a slice -/
theorem RD.sl_cells {fz : Nat → Nat → Prop} {w : World} {nn : Bool} {sz : Nat} {xs : List D} {v : Value} (h : RD fz w (.sl nn sz xs) v) :
    ∃ vs : Nat → Nat → Value, (∀ x ∈ xs, x.cells.length = sz ∧ ∀ y ∈ x.cells, y.one = true) ∧ (∀ (i j : Nat) (x y : D), xs[i]? = some x → x.cells[j]? = some y → RD fz w y (vs i j)) ∧
      (∀ u ∈ flat xs.length sz vs, u.oneCell' = true) ∧
      ((nn = true ∧ xs = [] ∧ v = .slice none 0 0) ∨ (nn = false ∧ ∃ a cap, v = .slice (some a) xs.length cap ∧ (xs = [] ∨ a.spot = none) ∧ xs.length ≤ cap ∧ cap ≤ maxLen ∧
        ∀ k u, (flat xs.length sz vs)[k]? = some u → fz a.block (a.off + k) ∧ w.cell? (a.add k) = some u)) := by
  rcases h.sl_inv with ⟨rfl, rfl, rfl⟩ | ⟨rfl, a, cap, vs, rfl, hs, hcap, hmax, hsz, hc, hr⟩
  · exact ⟨fun _ _ => undef, fun _ h => by simp at h, fun i j x y h => by simp at h, fun u h => by simp [flat] at h, .inl ⟨rfl, rfl, rfl⟩⟩
  · refine ⟨vs, hsz, hr, fun u hu => ?_, .inr ⟨rfl, a, cap, rfl, hs, hcap, hmax, fun k u hk => ?_⟩⟩
    · obtain ⟨k, hk⟩ := List.getElem?_of_mem hu
      obtain ⟨i, j, hi, hj, rfl, rfl⟩ := flat_inv vs hk
      have hm : xs[i] ∈ xs := List.getElem_mem hi
      have hl := (hsz _ hm).1
      have hy : xs[i].cells[j]? = some xs[i].cells[j] := by simp [hl, hj]
      exact (hr i j xs[i] _ (by simp [hi]) hy).oneCell ((hsz _ hm).2 _ (List.getElem_mem _))
    · obtain ⟨i, j, hi, hj, rfl, rfl⟩ := flat_inv vs hk
      have hne : xs ≠ [] := fun e => by subst e; simp at hi
      have ha : a.spot = none := by
        rcases hs with e | e
        · exact absurd e hne
        · exact e
      obtain ⟨ab, ao, asp⟩ := a
      simp only at ha
      subst ha
      have := hc i j hi hj
      rw [Nat.add_assoc] at this
      rw [Addr.add_lit]
      exact this

theorem sizes_append {sz : Nat} {xs ys : List D} (h : ∀ x ∈ xs, x.cells.length = sz ∧ ∀ y ∈ x.cells, y.one = true) (h' : ∀ x ∈ ys, x.cells.length = sz ∧ ∀ y ∈ x.cells, y.one = true) :
    ∀ x ∈ xs ++ ys, x.cells.length = sz ∧ ∀ y ∈ x.cells, y.one = true := fun x hx => by
  rcases List.mem_append.1 hx with hx | hx
  · exact h x hx
  · exact h' x hx

theorem reads_append {fz : Nat → Nat → Prop} {w : World} {xs ys : List D} {vs us : Nat → Nat → Value} (h : ∀ (i j : Nat) (x y : D), xs[i]? = some x → x.cells[j]? = some y → RD fz w y (vs i j))
    (h' : ∀ (i j : Nat) (x y : D), ys[i]? = some x → x.cells[j]? = some y → RD fz w y (us i j)) :
    ∀ (i j : Nat) (x y : D), (xs ++ ys)[i]? = some x → x.cells[j]? = some y → RD fz w y (both xs.length vs us i j) := fun i j x y hx hy => by
  unfold both
  by_cases hi : i < xs.length
  · rw [List.getElem?_append_left hi] at hx
    rw [if_pos hi]
    exact h i j x y hx hy
  · rw [List.getElem?_append_right (by omega)] at hx
    rw [if_neg hi]
    exact h' _ j x y hx hy

section
variable {P : Program} {γ : Gh} {S : St} {w : World}

/-- the world behind an append that makes a new row -/
theorem append_world {t ty e : TypeId} {i : TypeInfo} {z : Value} (ht : P.underlying t = some (.slice e)) (hi : P.info? e = some i) (hz : i.zero = some z) (hzs : z.cells.size = i.size)
    {v u : Value} {nn : Bool} {sz : Nat} {xs ys : List D} (hsz : i.size = sz) {vs us : Nat → Nat → Value}
    (hv : (nn = true ∧ xs = [] ∧ v = .slice none 0 0) ∨ (nn = false ∧ ∃ a cap, v = .slice (some a) xs.length cap ∧ cap < xs.length + ys.length ∧ cap ≤ maxLen ∧ ∀ k u, (flat xs.length sz vs)[k]? = some u → w.cell? (a.add k) = some u))
    (hu : ∃ a c, u = .slice (some a) ys.length c ∧ ∀ k u, (flat ys.length sz us)[k]? = some u → w.cell? (a.add k) = some u)
    (hm : 0 < ys.length) (h63 : xs.length + ys.length ≤ maxLen) (hb : (xs.length + ys.length) * i.bytes ≤ 140737488355328) :
    ∃ cap rest, (Builtin.append_ #[t, t] ty #[v, u]).run P w = .ok (.slice (some ⟨w.heap.size, 0, none⟩) (xs.length + ys.length) cap)
        (w.drew.alloc (.cells (flat (xs.length + ys.length) sz (both xs.length vs us) ++ rest).toArray e)) ∧ xs.length + ys.length ≤ cap ∧ cap ≤ maxLen ∧
      (flat (xs.length + ys.length) sz (both xs.length vs us) ++ rest).toArray.size = cap * sz := by
  obtain ⟨a, c, rfl, hnews⟩ := hu
  subst hsz
  have hml : maxLen = 9223372036854775807 := by decide
  have hnl := flat_length ys.length i.size us
  rcases hv with ⟨rfl, rfl, rfl⟩ | ⟨rfl, a', cap, rfl, hcap, _, holds⟩
  · simp only [List.length_nil, Nat.zero_add] at h63 hb ⊢
    have hr := run_append_nil (P := P) w t ty e i z ht hi hz a ys.length c (flat ys.length i.size us) hnl hnews hm (by omega) (by omega)
    have hge := grownCap_ge w ys.length 0 e
    refine ⟨_, (Builtin.zeroCells z.cells (grownCap w ys.length 0 e - ys.length)).toList, ?_, hge, grownCap_le_maxLen w _ 0 e h63, ?_⟩
    · rw [hr]
      have hf := flat_both 0 ys.length i.size vs us
      simp only [Nat.zero_add] at hf
      rw [← hf]
      simp only [flat, Nat.zero_mul, List.range_zero, List.map_nil, List.nil_append]
      congr 3
      apply Array.ext'
      simp
    · simp only [List.size_toArray, List.length_append, flat_length, Array.length_toList, size_zeroCells, hzs, ← Nat.add_mul]
      congr 1; omega
  · have hg : cap < xs.length + ys.length := hcap
    have hr := run_append_grow (P := P) w t ty e i z ht hi hz a' xs.length cap (flat xs.length i.size vs) (flat_length ..) holds a ys.length c (flat ys.length i.size us) hnl hnews hg (by omega) (growslice_fits hg hb)
    have hge := grownCap_ge w (xs.length + ys.length) cap e
    refine ⟨_, (Builtin.zeroCells z.cells (grownCap w (xs.length + ys.length) cap e - (xs.length + ys.length))).toList, ?_, hge, grownCap_le_maxLen w _ cap e h63, ?_⟩
    · rw [hr]
      rw [← flat_both]
      congr 3
      apply Array.ext'
      simp
    · simp only [List.size_toArray, List.length_append, flat_length, Array.length_toList, size_zeroCells, hzs, ← Nat.add_mul]
      congr 1; omega

/-- a new frozen row behind a draw, its elements read -/
theorem row_read {sz cap : Nat} {zs : List D} {vs : Nat → Nat → Value} {rest : List Value} {fz : Nat → Nat → Prop} {w' : World} {b : Nat}
    (hcell : ∀ k u, (flat zs.length sz vs ++ rest)[k]? = some u → w'.cell? ⟨b, k, none⟩ = some u) (hfz : ∀ k, k < zs.length * sz → fz b k)
    (hcap : zs.length ≤ cap) (hmax : cap ≤ maxLen) (hsz : ∀ x ∈ zs, x.cells.length = sz ∧ ∀ y ∈ x.cells, y.one = true)
    (hr : ∀ (i j : Nat) (x y : D), zs[i]? = some x → x.cells[j]? = some y → RD fz w' y (vs i j)) : RD fz w' (.sl false sz zs) (.slice (some ⟨b, 0, none⟩) zs.length cap) :=
  RD.sl_mk (vs := vs) hcap hmax hsz (fun k u hk => by
    have hlt : k < zs.length * sz := by
      have := (List.getElem?_eq_some_iff.1 hk).1
      rwa [flat_length] at this
    rw [Nat.zero_add]
    exact ⟨hfz k hlt, hcell k u (by rw [List.getElem?_append_left (by rw [flat_length]; exact hlt)]; exact hk)⟩) hr

theorem own_nil_of {nn : Bool} {xs ys : List D} (h : nn = true → xs = []) (hys : ys = []) : (nn && (xs ++ ys).isEmpty) = nn := by
  subst hys
  cases nn with
  | false => rfl
  | true => simp [h rfl]

theorem not_empty_of {nn : Bool} {xs ys : List D} (hys : 0 < ys.length) : (nn && (xs ++ ys).isEmpty) = false := by
  cases ys with
  | nil => simp at hys
  | cons y ys => simp

/-- append onto a slice whose capacity is its length: a token of its own -/
theorem append_full {t ty e : TypeId} {i : TypeInfo} {z : Value} (ht : P.underlying t = some (.slice e)) (hi : P.info? e = some i) (hz : i.zero = some z) (hzs : z.cells.size = i.size)
    (hI : Inv γ S w) {o : Nat} (hdead : S[o]? = some .dead) (hnone : γ.mu o = none) {v u : Value} {nn nn' : Bool} {sz : Nat} {xs ys : List D} (hsz : i.size = sz) (hv : RD γ.fz w (.sl nn sz xs) v) (hfull : ∃ a, v = .slice a xs.length xs.length)
    (hu : RD γ.fz w (.sl nn' sz ys) u) (h63 : xs.length + ys.length ≤ maxLen) (hb : (xs.length + ys.length) * i.bytes ≤ 140737488355328) :
    ∃ v' γ' w', (Builtin.append_ #[t, t] ty #[v, u]).run P w = .ok v' w' ∧ Inv γ' (S.set o (.tok e (xs.length + ys.length) sz)) w' ∧
      Ext S.length γ S w γ' (S.set o (.tok e (xs.length + ys.length) sz)) w' ∧ RV γ' (S.set o (.tok e (xs.length + ys.length) sz)) w' (.own o nn sz (xs ++ ys)) v' := by
  have hlt : o < S.length := (List.getElem?_eq_some_iff.1 hdead).1
  have hget : (S.set o (AObj.tok e (xs.length + ys.length) sz))[o]? = some (.tok e (xs.length + ys.length) sz) := by rw [List.getElem?_set]; simp [hlt]
  obtain ⟨vs, hvs, hvr, _, hv2⟩ := hv.sl_cells
  obtain ⟨us, hus, hur, _, hu2⟩ := hu.sl_cells
  have hnn : nn = true → xs = [] := fun e => by
    rcases hv2 with ⟨_, h, _⟩ | ⟨h, _⟩
    · exact h
    · rw [e] at h; cases h
  by_cases hm : ys = []
  · subst hm
    have hrun : (Builtin.append_ #[t, t] ty #[v, u]).run P w = .ok v w := by
      obtain ⟨a, rfl⟩ := hfull
      rcases hu2 with ⟨_, _, rfl⟩ | ⟨_, a', cap', rfl, _⟩ <;> cases a <;>
        simp [Builtin.append_, run_underlying ht, sizeOf, typeInfo, hi, Builtin.lenOf, Builtin.firstCells, loadCells, loadCellsFrom, storeCells]
    obtain ⟨h1, h2⟩ := fill (γ' := γ) (w' := w) hI hdead hnone (.tok e (xs.length + ([] : List D).length) sz) (fun h => by cases h) (fun _ _ => rfl) (fun b hb => by rw [hnone] at hb; cases hb) (fun _ _ => rfl) (Nat.le_refl _)
      (fun _ _ h => h) (fun _ _ h => .inl h) rfl rfl rfl (fun _ b hb => by rw [hnone] at hb; cases hb)
    refine ⟨v, γ, w, hrun, h1, h2, .own o nn e sz (xs.length + ([] : List D).length) (xs ++ []) v hget (by simp) ?_ fun _ => ?_⟩
    · rw [own_nil_of hnn rfl, List.append_nil]
      exact hv
    · obtain ⟨a, rfl⟩ := hfull
      cases a with
      | none =>
        rcases hv2 with ⟨_, rfl, h⟩ | ⟨_, a, cap, h, _⟩
        · exact .inl rfl
        · cases h
      | some a => exact .inr (.inl ⟨a, by simp⟩)
  · have hmp : 0 < ys.length := List.length_pos_iff.2 hm
    have hu3 : ∃ a c, u = .slice (some a) ys.length c ∧ ∀ k u, (flat ys.length sz us)[k]? = some u → w.cell? (a.add k) = some u := by
      rcases hu2 with ⟨_, h, _⟩ | ⟨_, a, c, h, _, _, _, h2⟩
      · exact absurd h hm
      · exact ⟨a, c, h, fun k u hk => (h2 k u hk).2⟩
    have hv3 : (nn = true ∧ xs = [] ∧ v = .slice none 0 0) ∨ (nn = false ∧ ∃ a cap, v = .slice (some a) xs.length cap ∧ cap < xs.length + ys.length ∧ cap ≤ maxLen ∧ ∀ k u, (flat xs.length sz vs)[k]? = some u → w.cell? (a.add k) = some u) := by
      rcases hv2 with h | ⟨h1, a, c, h2, _, _, h5, h6⟩
      · exact .inl h
      · obtain ⟨a', rfl⟩ := hfull
        cases h2
        exact .inr ⟨h1, a, xs.length, rfl, by omega, h5, fun k u hk => (h6 k u hk).2⟩
    obtain ⟨cap, rest, hrun, hcap, hmax, hsize⟩ := append_world (ty := ty) ht hi hz hzs hsz hv3 hu3 hmp h63 hb
    have hzl : (xs ++ ys).length = xs.length + ys.length := by simp
    have key : ∀ k u, (flat (xs.length + ys.length) sz (both xs.length vs us) ++ rest)[k]? = some u →
        (w.drew.alloc (.cells (flat (xs.length + ys.length) sz (both xs.length vs us) ++ rest).toArray e)).cell? ⟨w.heap.size, k, none⟩ = some u := fun k u hk => by
      have := World.cell?_alloc_new w.drew (flat (xs.length + ys.length) sz (both xs.length vs us) ++ rest).toArray e k
      simp only [World.size_drew] at this
      rw [this]
      simpa using hk
    have hfull' : (xs.length + ys.length) * sz ≤ (flat (xs.length + ys.length) sz (both xs.length vs us) ++ rest).toArray.size := by
      rw [hsize]; exact Nat.mul_le_mul_right _ hcap
    generalize hw' : w.drew.alloc (.cells (flat (xs.length + ys.length) sz (both xs.length vs us) ++ rest).toArray e) = w' at hrun key
    have hold : ∀ b, b < w.heap.size → w'.heap[b]? = w.heap[b]? := fun b hb => by rw [← hw']; exact heap_alloc_old w.drew _ b hb
    have hws : w'.heap.size = w.heap.size + 1 := by rw [← hw']; simp
    have hnewb : w'.heap[w.heap.size]? = some (.cells (flat (xs.length + ys.length) sz (both xs.length vs us) ++ rest).toArray e (0, 0)) := by rw [← hw']; exact heap_alloc_new w.drew _
    let γ' : Gh := { mu := fun i => if i = o then some w.heap.size else γ.mu i, fz := fun c k => γ.fz c k ∨ (c = w.heap.size ∧ k < (xs.length + ys.length) * sz) }
    obtain ⟨hInv, he⟩ := fill (γ' := γ') (w' := w') hI hdead hnone (.tok e (xs.length + ys.length) sz) (fun h => by cases h) (fun j hj => by simp [γ', hj]) (fun b hb => by simp [γ'] at hb; subst hb; omega) hold (by omega)
      (fun _ _ h => .inl h) (fun b k h => h.imp id fun h => ⟨by rw [h.1]; exact Nat.le_refl _, by
        obtain ⟨rfl, h⟩ := h
        have hlt : k < (flat (xs.length + ys.length) sz (both xs.length vs us) ++ rest).length := by simp only [List.size_toArray] at hfull'; omega
        exact ⟨_, key k _ (List.getElem?_eq_getElem hlt)⟩⟩) (by rw [← hw']; rfl) (by rw [← hw']; rfl) (by rw [← hw']; rfl)
      (fun _ b hbb => by
        simp [γ'] at hbb
        subst hbb
        refine ⟨⟨_, hnewb⟩, fun off hoff hf => ?_⟩
        rcases hf with hf | ⟨_, hf⟩
        · exact absurd (hI.fz_lt hf) (Nat.lt_irrefl _)
        · omega)
    refine ⟨_, γ', w', hrun, hInv, he, ?_⟩
    have hrd : RD γ'.fz w' (.sl false sz (xs ++ ys)) (.slice (some ⟨w.heap.size, 0, none⟩) (xs.length + ys.length) cap) := by
      have := row_read (zs := xs ++ ys) (sz := sz) (cap := cap) (vs := both xs.length vs us) (rest := rest) (fz := γ'.fz) (b := w.heap.size)
        (w' := w') (by rw [hzl]; exact key) (fun k hk => .inr ⟨rfl, by rw [hzl] at hk; exact hk⟩) (by rw [hzl]; exact hcap) hmax
        (sizes_append hvs hus) (fun i j x y hx hy => (reads_append hvr hur i j x y hx hy).mono he.fz he.cell)
      rwa [hzl] at this
    refine .own o nn e sz (xs.length + ys.length) (xs ++ ys) _ hget (by simp) ?_ fun _ => ?_
    · rw [not_empty_of hmp]; exact hrd
    · rw [hzl]
      exact .inr (.inr ⟨w.heap.size, cap, _, by simp [γ'], rfl, hnewb, hcap, hmax, hsize⟩)

end
end Go.Vm
