/-
  A part of the proof: an abstract run of the program, shown to be what the model does, and what it comes to.
-/
import Derived.Test.YtmfjfejjegemaaaGreatDoorWmE
set_option linter.unusedVariables false
set_option linter.unusedSimpArgs false
set_option linter.unnecessarySimpa false
set_option linter.defProp false
set_option linter.unusedSectionVars false
namespace Go.Wm
open Go
variable [GlobReq]

theorem div_of {i sz j : Nat} (hj : j < sz) : (i * sz + j) / sz = i ∧ (i * sz + j) % sz = j := by
  have h0 : 0 < sz := by omega
  constructor
  · rw [Nat.mul_comm, Nat.mul_add_div h0, Nat.div_eq_of_lt hj]; rfl
  · rw [Nat.mul_comm, Nat.mul_add_mod, Nat.mod_eq_of_lt hj]

theorem idx_lt {i n sz j : Nat} (hi : i < n) (hj : j < sz) : i * sz + j < n * sz := by
  have : (i + 1) * sz ≤ n * sz := Nat.mul_le_mul_right _ hi
  rw [Nat.add_mul, Nat.one_mul] at this
  omega

/-- the cells of a row of elements, flat -/
def flat (n sz : Nat) (vs : Nat → Nat → Value) : List Value := (List.range (n * sz)).map fun k => vs (k / sz) (k % sz)
theorem flat_length (n sz : Nat) (vs : Nat → Nat → Value) : (flat n sz vs).length = n * sz := by simp [flat]
theorem flat_get {n sz : Nat} (vs : Nat → Nat → Value) {i j : Nat} (hi : i < n) (hj : j < sz) : (flat n sz vs)[i * sz + j]? = some (vs i j) := by
  simp [flat, List.getElem?_range (idx_lt hi hj), div_of hj]
theorem flat_inv {n sz : Nat} (vs : Nat → Nat → Value) {k : Nat} {u : Value} (h : (flat n sz vs)[k]? = some u) : ∃ i j, i < n ∧ j < sz ∧ k = i * sz + j ∧ u = vs i j := by
  have hk : k < n * sz := by
    have := (List.getElem?_eq_some_iff.1 h).1
    simpa [flat] using this
  have h0 : 0 < sz := by
    rcases Nat.eq_zero_or_pos sz with rfl | h0
    · simp at hk
    · exact h0
  simp [flat, List.getElem?_range hk] at h
  refine ⟨k / sz, k % sz, (Nat.div_lt_iff_lt_mul h0).2 hk, Nat.mod_lt _ h0, ?_, h.symm⟩
  have := Nat.div_add_mod k sz
  rw [Nat.mul_comm] at this
  omega

/-- two rows, one behind the other -/
def both (n : Nat) (vs us : Nat → Nat → Value) (i j : Nat) : Value := if i < n then vs i j else us (i - n) j

theorem flat_both (n m sz : Nat) (vs us : Nat → Nat → Value) : flat n sz vs ++ flat m sz us = flat (n + m) sz (both n vs us) := by
  apply List.ext_getElem?
  intro k
  by_cases hk : k < n * sz
  · rw [List.getElem?_append_left (by rw [flat_length]; exact hk)]
    have h0 : 0 < sz := by
      rcases Nat.eq_zero_or_pos sz with rfl | h0
      · simp at hk
      · exact h0
    have hlt : k / sz < n := (Nat.div_lt_iff_lt_mul h0).2 hk
    have hk2 : k < (n + m) * sz := by rw [Nat.add_mul]; omega
    simp [flat, List.getElem?_range hk, List.getElem?_range hk2, both, hlt]
  · rw [List.getElem?_append_right (by rw [flat_length]; omega), flat_length]
    by_cases hk2 : k < (n + m) * sz
    · have h0 : 0 < sz := by
        rcases Nat.eq_zero_or_pos sz with rfl | h0
        · simp at hk2
        · exact h0
      have hk3 : k - n * sz < m * sz := by rw [Nat.add_mul] at hk2; omega
      have e : k = sz * n + (k - n * sz) := by rw [Nat.mul_comm sz n]; omega
      have e1 : k / sz = n + (k - n * sz) / sz := by
        conv => lhs; rw [e]
        exact Nat.mul_add_div h0 _ _
      have e2 : k % sz = (k - n * sz) % sz := by
        conv => lhs; rw [e]
        exact Nat.mul_add_mod _ _ _
      simp [flat, List.getElem?_range hk2, List.getElem?_range hk3, both, e1, e2]
      exact fun h => absurd h (Nat.not_lt.2 (Nat.le_add_right _ _))
    · rw [List.getElem?_eq_none (by rw [flat_length]; rw [Nat.add_mul] at hk2; omega), List.getElem?_eq_none (by rw [flat_length]; omega)]

theorem sizes_append {sz : Nat} {xs ys : List D} (h : ∀ x ∈ xs, x.cells.length = sz ∧ ∀ y ∈ x.cells, y.one = true) (h' : ∀ x ∈ ys, x.cells.length = sz ∧ ∀ y ∈ x.cells, y.one = true) :
    ∀ x ∈ xs ++ ys, x.cells.length = sz ∧ ∀ y ∈ x.cells, y.one = true := fun x hx => by
  rcases List.mem_append.1 hx with hx | hx
  · exact h x hx
  · exact h' x hx

theorem reads_append {fz : Nat → Nat → Prop} {w : World} {xs ys : List D} {vs us : Nat → Nat → Value} (h : ∀ (i j : Nat) (x y : D), xs[i]? = some x → x.cells[j]? = some y → RD fz w y (vs i j))
    (h' : ∀ (i j : Nat) (x y : D), ys[i]? = some x → x.cells[j]? = some y → RD fz w y (us i j)) :
    ∀ (i j : Nat) (x y : D), (xs ++ ys)[i]? = some x → x.cells[j]? = some y → RD fz w y (both xs.length vs us i j) := fun i j x y hx hy => by
  unfold both
  by_cases hi : i < xs.length
  · rw [List.getElem?_append_left hi] at hx
    rw [if_pos hi]
    exact h i j x y hx hy
  · rw [List.getElem?_append_right (by omega)] at hx
    rw [if_neg hi]
    exact h' _ j x y hx hy


/-- a row's cells at a place -/
theorem RD.sl_mk {fz : Nat → Nat → Prop} {w : World} {sz : Nat} {xs : List D} {b off cap : Nat} {vs : Nat → Nat → Value} (hcap : xs.length ≤ cap) (hmax : cap ≤ maxLen)
    (hsz : ∀ x ∈ xs, x.cells.length = sz ∧ ∀ y ∈ x.cells, y.one = true)
    (hc : ∀ k u, (flat xs.length sz vs)[k]? = some u → fz b (off + k) ∧ w.cell? ⟨b, off + k, none⟩ = some u)
    (hr : ∀ (i j : Nat) (x y : D), xs[i]? = some x → x.cells[j]? = some y → RD fz w y (vs i j)) : RD fz w (.sl xs) (.slice (some ⟨b, off, none⟩) xs.length cap) :=
  .sl sz xs ⟨b, off, none⟩ cap vs (.inr rfl) hcap hmax hsz (fun i j hi hj => by
    have := hc (i * sz + j) (vs i j) (flat_get vs hi hj)
    rw [← Nat.add_assoc] at this
    exact this) hr

/-- what is read of a slice -/
theorem RD.sl_cells {fz : Nat → Nat → Prop} {w : World} {xs : List D} {v : Value} (h : RD fz w (.sl xs) v) :
    ∃ (sz : Nat) (vs : Nat → Nat → Value), (∀ x ∈ xs, x.cells.length = sz ∧ ∀ y ∈ x.cells, y.one = true) ∧ (∀ (i j : Nat) (x y : D), xs[i]? = some x → x.cells[j]? = some y → RD fz w y (vs i j)) ∧
      ((xs = [] ∧ v = .slice none 0 0) ∨ (∃ a cap, v = .slice (some a) xs.length cap ∧ (xs = [] ∨ a.spot = none) ∧ xs.length ≤ cap ∧ cap ≤ maxLen ∧
        ∀ k u, (flat xs.length sz vs)[k]? = some u → fz a.block (a.off + k) ∧ w.cell? (a.add k) = some u)) := by
  rcases h.sl_inv with ⟨rfl, rfl⟩ | ⟨sz, a, cap, vs, rfl, hs, hcap, hmax, hsz, hc, hr⟩
  · exact ⟨0, fun _ _ => undef, fun _ h => by simp at h, fun i j x y h => by simp at h, .inl ⟨rfl, rfl⟩⟩
  · refine ⟨sz, vs, hsz, hr, .inr ⟨a, cap, rfl, hs, hcap, hmax, fun k u hk => ?_⟩⟩
    · obtain ⟨i, j, hi, hj, rfl, rfl⟩ := flat_inv vs hk
      have hne : xs ≠ [] := fun e => by subst e; simp at hi
      have ha : a.spot = none := by
        rcases hs with e | e
        · exact absurd e hne
        · exact e
      obtain ⟨ab, ao, asp⟩ := a
      simp only at ha
      subst ha
      have := hc i j hi hj
      rw [Nat.add_assoc] at this
      rw [Addr.add_lit]
      exact this

/-- what one sees of a slice when one reads it now -/
def Reads (fz : Nat → Nat → Prop) (w : World) (ys : List D) (v : Value) : Prop :=
  ∃ (sz : Nat) (vs : Nat → Nat → Value), (∀ x ∈ ys, x.cells.length = sz ∧ ∀ y ∈ x.cells, y.one = true) ∧ (∀ (i j : Nat) (x y : D), ys[i]? = some x → x.cells[j]? = some y → RD fz w y (vs i j)) ∧
    ((ys = [] ∧ ∃ a c, v = .slice a 0 c) ∨ ∃ a cap, v = .slice (some a) ys.length cap ∧ ∀ k u, (flat ys.length sz vs)[k]? = some u → w.cell? (a.add k) = some u)

theorem Reads.cap {fz : Nat → Nat → Prop} {w : World} {ys : List D} {a : Option Addr} {n c c' : Nat} (h : Reads fz w ys (.slice a n c)) : Reads fz w ys (.slice a n c') := by
  obtain ⟨sz, vs, h1, h2, h3⟩ := h
  refine ⟨sz, vs, h1, h2, ?_⟩
  rcases h3 with ⟨rfl, a', c1, h⟩ | ⟨a', cap, h, h4⟩
  · cases h; exact .inl ⟨rfl, _, _, rfl⟩
  · cases h; exact .inr ⟨_, _, rfl, h4⟩
theorem RD.reads {fz : Nat → Nat → Prop} {w : World} {xs : List D} {v : Value} (h : RD fz w (.sl xs) v) : Reads fz w xs v := by
  obtain ⟨sz, vs, h1, h2, h3⟩ := h.sl_cells
  refine ⟨sz, vs, h1, h2, ?_⟩
  rcases h3 with ⟨rfl, rfl⟩ | ⟨a, cap, rfl, _, _, _, h4⟩
  · exact .inl ⟨rfl, _, _, rfl⟩
  · exact .inr ⟨a, cap, rfl, fun k u hk => (h4 k u hk).2⟩

theorem Reads.slice {fz : Nat → Nat → Prop} {w : World} {xs : List D} {v : Value} (h : Reads fz w xs v) : ∃ a cap, v = .slice a xs.length cap := by
  obtain ⟨sz, vs, h1, h2, ⟨rfl, a, c, rfl⟩ | ⟨a, cap, rfl, _⟩⟩ := h
  · exact ⟨_, _, rfl⟩
  · exact ⟨_, _, rfl⟩

/-- cells of a row of elements -/
def cellsAt (cur : Array Value) (sz lo : Nat) (i j : Nat) : Value := cur.getD ((lo + i) * sz + j) undef

section
variable {P : Program} {ty : Nat → Option TI} (hty : TyOk P ty) {γ : Gh} {S : St} {w : World}

theorem take_drop_get {α : Type} {xs : List α} {lo n i : Nat} {x : α} (h : ((xs.drop lo).take n)[i]? = some x) : xs[lo + i]? = some x ∧ i < n := by
  rw [List.getElem?_take] at h
  split at h
  · rw [List.getElem?_drop] at h
    exact ⟨h, by assumption⟩
  · cases h

theorem sl_reads (hI : Inv γ S w) {o lo n e sz : Nat} {xs : List D} {v : Value} (hr : rowAt S o = some (e, sz, xs)) (hx : RV γ S w (.sl o lo n) v) : Reads γ.fz w ((xs.drop lo).take n) v := by
  obtain ⟨hle, h⟩ := hx.sl_row hr
  have hlen : ((xs.drop lo).take n).length = n := by simp; omega
  rcases h with ⟨rfl, a, rfl⟩ | ⟨b, cap, cur, h1, rfl, h3, h4, h5, h6⟩
  · exact ⟨0, fun _ _ => undef, fun _ h => by simp at h, fun i j x y h => by simp at h, .inl ⟨by simp, _, _, rfl⟩⟩
  · obtain ⟨ob, ho, hro⟩ := rowAt_some hr
    obtain ⟨cur', g1, g2, g3, g4⟩ := row_cells hI ho hro h1
    rw [h5] at g1
    cases g1
    refine ⟨sz, cellsAt cur sz lo, fun x hx => g2 x (List.mem_of_mem_drop (List.mem_of_mem_take hx)), fun i j x y hx hy => ?_, .inr ⟨⟨b, lo * sz, none⟩, cap, by rw [hlen], fun k u hk => ?_⟩⟩
    · obtain ⟨hx', _⟩ := take_drop_get hx
      obtain ⟨v, q1, q2⟩ := g4 (lo + i) j x y hx' hy
      simpa [cellsAt, q1] using q2
    · obtain ⟨i, j, hi, hj, rfl, rfl⟩ := flat_inv _ hk
      rw [hlen] at hi
      rw [Addr.add_lit, cell_of_row w b _ cur e _ h5]
      have hlt : (lo + i) * sz + j < cur.size := by
        have := idx_lt (n := xs.length) (i := lo + i) (by omega) hj
        omega
      have e1 : lo * sz + (i * sz + j) = (lo + i) * sz + j := by rw [Nat.add_mul]; omega
      rw [e1]
      simp [cellsAt, hlt]

theorem sliceOf_reads (hI : Inv γ S w) {x : V} {v : Value} {xs : List D} (h : sliceOf S x = some xs) (hx : RV γ S w x v) : Reads γ.fz w xs v := by
  unfold sliceOf at h
  split at h
  · cases h; cases hx with | d _ _ hx => exact hx.reads
  · cases h; cases hx; exact RD.nils.reads
  · cases h; cases hx with | emp a c hc => exact (RD.empty a hc).reads
  · cases h; cases hx with | own _ _ _ _ _ _ _ _ hd _ _ => exact hd.reads
  · cases h; cases hx with | fsl _ _ hd => exact hd.reads
  · simp only [Option.map_eq_some_iff] at h
    obtain ⟨⟨e, sz, ys⟩, hr, rfl⟩ := h
    exact sl_reads hI hr hx
  · cases h

/-- of what is no row one may keep what one read -/
theorem sliceOf_ok {x : V} {v : Value} {xs : List D} (h : sliceOf S x = some xs) (hn : ∀ o lo n, x ≠ .sl o lo n) (hx : RV γ S w x v) : RD γ.fz w (.sl xs) v := by
  unfold sliceOf at h
  split at h
  · cases h; cases hx; assumption
  · cases h; cases hx; exact .nils
  · cases h; cases hx with | emp a c hc => exact RD.empty a hc
  · cases h; cases hx; assumption
  · cases h; cases hx; assumption
  · exact absurd rfl (hn _ _ _)
  · cases h

include hty in
theorem idxA_ok {E : Env} (hE : E.ty = ty) {t : Nat} {x y : V} {v : Value} {k : IntKind} {i : Int} (h : idxA E t S x i = some y) (hx : RV γ S w x v) :
    ∃ u, (Instr.indexAt t v (.int k i)).run P w = .ok u w ∧ RV γ S w y u := by
  subst hE
  unfold idxA at h
  split at h
  · rename_i o off
    unfold Env.arr at h
    cases ht : E.ty t with
    | none => simp [ht] at h
    | some ti =>
      simp only [ht, Option.bind_some] at h
      cases hd : ti.desc <;> rw [hd] at h <;> simp only [Option.bind_none, Option.bind_some] at h <;> first | (cases h; done) | skip
      rename_i n e s
      split at h <;> first | (cases h; done) | skip
      split at h <;> first | (cases h; done) | skip
      split at h <;> first | (cases h; done) | skip
      rename_i hn h0 h1
      cases h
      cases hx with
      | ptr _ _ b cs ho hb =>
        obtain ⟨hu, hs⟩ := hty.array ht hd
        refine ⟨.pointer (some ⟨b, off + i.toNat * s, none⟩), ?_, .ptr o _ b cs ho hb⟩
        simp [Instr.indexAt, asIntOf, run_underlying hu, Instr.sureAddr, h0, h1, hs, Addr.add_lit]
  · rename_i o lo n
    cases hr : rowAt S o with
    | none => simp [hr] at h
    | some r =>
      obtain ⟨e0, sz, xs⟩ := r
      unfold Env.elem at h
      cases ht : E.ty t with
      | none => simp [hr, ht] at h
      | some ti =>
        simp only [hr, ht, Option.bind_some] at h
        cases hd : ti.desc <;> rw [hd] at h <;> simp only [Option.bind_none, Option.bind_some] at h <;> first | (cases h; done) | skip
        rename_i e es eb
        split at h <;> first | (cases h; done) | skip
        split at h <;> first | (cases h; done) | skip
        split at h <;> first | (cases h; done) | skip
        rename_i hsz h0 h1
        cases h
        subst hsz
        obtain ⟨ob, ho, hro⟩ := rowAt_some hr
        obtain ⟨hle, hs⟩ := hx.sl_row hr
        have hu := (hty.slice ht hd).1
        have hz := hty.sliceSize ht hd w
        rcases hs with ⟨rfl, _⟩ | ⟨b, cap, cur, h2, rfl, h3, h4, h5, h6⟩
        · simp at h1; omega
        · refine ⟨.pointer (some ⟨b, (lo + i.toNat) * es + 0, none⟩), ?_, .eptr o _ 0 ob _ ho (.inr ⟨_, hro⟩) fun e1 sz1 xs1 hr1 => ?_⟩
          · simp [Instr.indexAt, asIntOf, run_underlying hu, h0, h1, hz, Addr.add_lit, Nat.add_mul]
          · rw [hro] at hr1
            cases hr1
            exact ⟨b, h2, rfl⟩
  · rename_i hn1 hn2
    cases hr : sliceOf S x with
    | none => simp [hr] at h
    | some xs =>
      unfold Env.elem at h
      cases ht : E.ty t with
      | none => simp [hr, ht] at h
      | some ti =>
        simp only [hr, ht, Option.bind_some] at h
        cases hd : ti.desc <;> rw [hd] at h <;> simp only [Option.bind_none, Option.bind_some] at h <;> first | (cases h; done) | skip
        rename_i e es eb
        cases hi : idxD xs i with
        | none => simp [hi] at h
        | some z =>
          simp only [hi, Option.bind_some] at h
          split at h <;> first | (cases h; done) | skip
          rename_i hze
          cases h
          unfold idxD at hi
          split at hi <;> first | (cases hi; done) | skip
          rename_i h0
          have hlt := (List.getElem?_eq_some_iff.1 hi).1
          rcases (sliceOf_ok hr (fun o lo n e => hn2 o lo n e) hx).sl_inv with ⟨rfl, _⟩ | ⟨sz, a, cap, vs, rfl, hs, hcap, hmax, hszs, hc, hrr⟩
          · simp at hi
          · have ha : a.spot = none := by
              rcases hs with rfl | hs
              · simp at hi
              · exact hs
            have hu := (hty.slice ht hd).1
            have hz := hty.sliceSize ht hd w
            obtain ⟨ab, ao, asp⟩ := a
            simp only at ha
            subst ha
            have h1 : i < (xs.length : Int) := by omega
            have hmem : z ∈ xs := List.mem_of_getElem? hi
            have hsz : es = sz := by rw [← hze]; exact (hszs z hmem).1
            subst hsz
            refine ⟨.pointer (some ⟨ab, ao + i.toNat * es + 0, none⟩), ?_, .cptr 0 ab _ z (vs i.toNat) (fun j hj => hc i.toNat j hlt (by rw [← hze]; exact hj)) (fun j y hy => ?_)⟩
            · simp [Instr.indexAt, asIntOf, run_underlying hu, h0, h1, hz, Addr.add_lit]
            · have hd := hrr i.toNat j z y hi hy
              exact ⟨(hszs z hmem).2 y (List.mem_of_getElem? hy), hd⟩
end
end Go.Wm
