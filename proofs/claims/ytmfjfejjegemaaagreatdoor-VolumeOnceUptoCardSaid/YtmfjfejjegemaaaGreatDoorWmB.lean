/-
  A part of the proof: an abstract run of the program, shown to be what the model does, and what it comes to.
-/
import Derived.Test.YtmfjfejjegemaaaGreatDoorWmA
set_option linter.unusedVariables false
set_option linter.unusedSimpArgs false
set_option linter.unnecessarySimpa false
set_option linter.defProp false
set_option linter.unusedSectionVars false
namespace Go.Wm
variable [GlobReq]

theorem cell_of_heap {w w' : World} {b : Nat} (h : w'.heap[b]? = w.heap[b]?) (o : Nat) : w'.cell? ⟨b, o, none⟩ = w.cell? ⟨b, o, none⟩ := by
  simp [World.cell?, h]

theorem Inv.fz_lt {γ : Gh} {S : St} {w : World} (hI : Inv γ S w) {b o : Nat} (h : γ.fz b o) : b < w.heap.size := by
  obtain ⟨v, hv⟩ := hI.fzin b o h
  exact World.block_lt_of_cell? w ⟨b, o, none⟩ hv

theorem RowOk.mono {fz fz' : Nat → Nat → Prop} {w w' : World} {sz : Nat} {xs : List D} {cur : Array Value} (h : RowOk fz w sz xs cur)
    (hf : ∀ b o, fz b o → fz' b o) (hc : ∀ b o, fz b o → w'.cell? ⟨b, o, none⟩ = w.cell? ⟨b, o, none⟩) : RowOk fz' w' sz xs cur :=
  ⟨h.1, h.2.1, fun i j x y hx hy => by obtain ⟨v, h1, h2⟩ := h.2.2 i j x y hx hy; exact ⟨v, h1, h2.mono hf hc⟩⟩
theorem MapOk.mono {fz fz' : Nat → Nat → Prop} {w w' : World} {kvs : List (D × D)} {es : Array MapEntry} {clock : Nat} (h : MapOk fz w kvs es clock)
    (hf : ∀ b o, fz b o → fz' b o) (hc : ∀ b o, fz b o → w'.cell? ⟨b, o, none⟩ = w.cell? ⟨b, o, none⟩) : MapOk fz' w' kvs es clock :=
  ⟨h.1, fun i p e hp he => by obtain ⟨h1, h2, h3⟩ := h.2.1 i p e hp he; exact ⟨h1.mono hf hc, h2.mono hf hc, h3⟩, h.2.2⟩

theorem ObjOk.mono {γ γ' : Gh} {S S' : St} {w w' : World} {o : Nat} {ob : AObj} (h : ObjOk γ S w o ob) (he : Ext S.length γ S w γ' S' w')
    (hmu : γ'.mu o = γ.mu o) (hb : ∀ b, γ.mu o = some b → w'.heap[b]? = w.heap[b]? ∧ ∀ off, γ'.fz b off → γ.fz b off) : ObjOk γ' S' w' o ob := by
  cases ob with
  | box cs =>
    obtain ⟨b, vs, e, h1, h2, h3, h4, h5⟩ := h
    obtain ⟨g1, g2⟩ := hb b h1
    exact ⟨b, vs, e, hmu.trans h1, g1.trans h2, h3, fun i x v hx hv => ⟨(h4 i x v hx hv).1, (h4 i x v hx hv).2.mono he⟩, fun off hf => h5 off (g2 off hf)⟩
  | tok e f sz =>
    intro b hbb
    obtain ⟨g1, g2⟩ := hb b (hmu ▸ hbb)
    obtain ⟨⟨cur, h1⟩, h2⟩ := h b (hmu ▸ hbb)
    exact ⟨⟨cur, g1.trans h1⟩, fun off ho hf => h2 off ho (g2 off hf)⟩
  | row e sz xs =>
    refine ⟨fun hn => h.1 (hmu ▸ hn), fun b hbb => ?_⟩
    obtain ⟨g1, g2⟩ := hb b (hmu ▸ hbb)
    obtain ⟨⟨cur, h1, h3⟩, h2⟩ := h.2 b (hmu ▸ hbb)
    exact ⟨⟨cur, g1.trans h1, h3.mono he.fz he.cell⟩, fun off hf => h2 off (g2 off hf)⟩
  | fro e sz xs =>
    refine ⟨fun hn => h.1 (hmu ▸ hn), fun b hbb => ?_⟩
    obtain ⟨g1, g2⟩ := hb b (hmu ▸ hbb)
    obtain ⟨⟨cur, h1, h3⟩, h2⟩ := h.2 b (hmu ▸ hbb)
    exact ⟨⟨cur, g1.trans h1, h3.mono he.fz he.cell⟩, fun k hk => he.fz _ _ (h2 k hk)⟩
  | map kvs =>
    obtain ⟨r, es, clock, h1, h2, h3⟩ := h
    exact ⟨r, es, clock, hmu.trans h1, (hb r h1).1.trans h2, h3.mono he.fz he.cell⟩
  | dead => trivial
  | gone => exact hmu.trans h

/-- only the world moves, and no block of it that was there -/
theorem Ext.world {γ : Gh} {S : St} {w w' : World} (hI : Inv γ S w) (hs : w.heap.size ≤ w'.heap.size) (hh : ∀ b, b < w.heap.size → w'.heap[b]? = w.heap[b]?)
    (h1 : w'.os = w.os) (h2 : w'.output = w.output) (h3 : w'.tape = w.tape) : Ext S.length γ S w γ S w' where
  len := Nat.le_refl _
  len' := Nat.le_refl _
  fz := fun _ _ h => h
  cell := fun b o hb => cell_of_heap (hh b (hI.fz_lt hb)) o
  size := hs
  obj := fun o ob ho hob => by rw [hob]; exact Keep.refl ob rfl fun b hb => hh b (hI.lt o b ho hb)
  rest := fun b hb _ => hh b hb
  own := fun _ h => .inl h
  newfz := fun _ _ h => .inl h
  os := h1
  output := h2
  tape := h3
  gl := rfl

theorem Inv.world {γ : Gh} {S : St} {w w' : World} (hI : Inv γ S w) (hs : w.heap.size ≤ w'.heap.size) (hh : ∀ b, b < w.heap.size → w'.heap[b]? = w.heap[b]?)
    (h1 : w'.os = w.os) (h2 : w'.output = w.output) (h3 : w'.tape = w.tape) : Inv γ S w' where
  obj := fun o ob ho => (hI.obj o ob ho).mono (Ext.world hI hs hh h1 h2 h3) rfl fun b hb =>
    ⟨hh b (hI.lt o b (List.getElem?_eq_some_iff.1 ho).1 hb), fun _ h => h⟩
  inj := hI.inj
  fzin := fun b o hb => by
    obtain ⟨v, hv⟩ := hI.fzin b o hb
    exact ⟨v, (cell_of_heap (hh b (hI.fz_lt hb)) o).trans hv⟩
  lt := fun o b ho hb => Nat.lt_of_lt_of_le (hI.lt o b ho hb) hs
  gl := hI.gl_ext (Ext.world hI hs hh h1 h2 h3)

theorem Ext.drew {γ : Gh} {S : St} {w : World} (hI : Inv γ S w) : Ext S.length γ S w γ S w.drew := Ext.world hI (Nat.le_refl _) (fun _ _ => rfl) rfl rfl rfl
theorem Inv.drew {γ : Gh} {S : St} {w : World} (hI : Inv γ S w) : Inv γ S w.drew := hI.world (Nat.le_refl _) (fun _ _ => rfl) rfl rfl rfl

theorem Ext.alloc {γ γ' : Gh} {S : St} {w : World} (hI : Inv γ S w) (o : Obj) (T : St) (hmu : ∀ i, i < S.length → γ'.mu i = γ.mu i)
    (hnew : ∀ i b, S.length ≤ i → i < (S ++ T).length → γ'.mu i = some b → w.heap.size ≤ b) (hfz : ∀ b o, γ.fz b o → γ'.fz b o)
    (hfz' : ∀ b o, γ'.fz b o → γ.fz b o ∨ w.heap.size ≤ b) (hgl : γ'.gl = γ.gl := by rfl) : Ext S.length γ S w γ' (S ++ T) (w.alloc o) where
  len := Nat.le_refl _
  len' := by simp
  fz := hfz
  cell := fun b o hb => cell_of_heap (heap_alloc_old w _ b (hI.fz_lt hb)) o
  size := by simp
  obj := fun i ob hi hob => by
    have hS : (S ++ T)[i]? = some ob := by rw [List.getElem?_append_left hi]; exact hob
    rw [hS]
    exact Keep.refl ob (hmu i hi) fun b hb => heap_alloc_old w _ b (hI.lt i b hi hb)
  rest := fun b hb _ => heap_alloc_old w _ b hb
  own := fun b ⟨i, hi, hb⟩ => by
    by_cases h : i < S.length
    · exact .inl ⟨i, h, (hmu i h) ▸ hb⟩
    · exact .inr (hnew i b (by omega) hi hb)
  newfz := fun b o h => (hfz' b o h).imp id .inl
  os := rfl
  output := rfl
  tape := rfl
  gl := hgl

theorem Inv.alloc {γ γ' : Gh} {S : St} {w : World} (hI : Inv γ S w) (X : Obj) (T : St) (hmu : ∀ i, i < S.length → γ'.mu i = γ.mu i)
    (hnew : ∀ i b, S.length ≤ i → i < (S ++ T).length → γ'.mu i = some b → b = w.heap.size) (hfz : ∀ b o, γ.fz b o → γ'.fz b o)
    (hfz' : ∀ b o, γ'.fz b o → γ.fz b o ∨ (b = w.heap.size ∧ ∃ v, (w.alloc X).cell? ⟨b, o, none⟩ = some v))
    (hinj : ∀ i i' b, S.length ≤ i → S.length ≤ i' → i < (S ++ T).length → i' < (S ++ T).length → γ'.mu i = some b → γ'.mu i' = some b → i = i')
    (hok : ∀ i ob, T[i]? = some ob → ObjOk γ' (S ++ T) (w.alloc X) (S.length + i) ob) (hgl : γ'.gl = γ.gl := by rfl) : Inv γ' (S ++ T) (w.alloc X) := by
  have he : Ext S.length γ S w γ' (S ++ T) (w.alloc X) := Ext.alloc hI X T hmu (fun i b h1 h2 h3 => by rw [hnew i b h1 h2 h3]; exact Nat.le_refl _) hfz
    (fun b o h => (hfz' b o h).imp id (fun h => by rw [h.1]; exact Nat.le_refl _)) hgl
  have key : ∀ i b, i < S.length → γ'.mu i = some b → b < w.heap.size := fun i b hi hb => hI.lt i b hi ((hmu i hi) ▸ hb)
  refine ⟨fun i ob hob => ?_, fun i i' b h1 h2 h3 h4 => ?_, fun b o h => ?_, fun i b hi hb => ?_, hI.gl_ext he⟩
  · by_cases hi : i < S.length
    · have hS : S[i]? = some ob := by rw [List.getElem?_append_left hi] at hob; exact hob
      refine (hI.obj i ob hS).mono he (hmu i hi) fun b hb => ⟨heap_alloc_old w _ b (hI.lt i b hi hb), fun off h => ?_⟩
      rcases hfz' b off h with h | ⟨h, _⟩
      · exact h
      · have := hI.lt i b hi hb; omega
    · have := hok (i - S.length) ob (by rw [List.getElem?_append_right (by omega)] at hob; exact hob)
      rwa [show S.length + (i - S.length) = i by omega] at this
  · by_cases hi : i < S.length
    · have k1 := key i b hi h3
      by_cases hi' : i' < S.length
      · exact hI.inj i i' b hi hi' ((hmu i hi) ▸ h3) ((hmu i' hi') ▸ h4)
      · have := hnew i' b (by omega) h2 h4; omega
    · have k1 := hnew i b (by omega) h1 h3
      by_cases hi' : i' < S.length
      · have := key i' b hi' h4; omega
      · exact hinj i i' b (by omega) (by omega) h1 h2 h3 h4
  · rcases hfz' b o h with h | h
    · obtain ⟨v, hv⟩ := hI.fzin b o h
      exact ⟨v, (cell_of_heap (heap_alloc_old w _ b (hI.fz_lt h)) o).trans hv⟩
    · exact h.2
  · by_cases h : i < S.length
    · have := key i b h hb; simp; omega
    · rw [hnew i b (by omega) hi hb]; simp

/-! ### a place that nobody has used yet is filled -/
def Gh.at (γ : Gh) (o : Nat) (b : Option Nat) : Gh := { γ with mu := fun i => if i = o then b else γ.mu i }

theorem renew {γ γ' : Gh} {S : St} {w w' : World} (hI : Inv γ S w) {o : Nat} {ob0 : AObj} (ho0 : S[o]? = some ob0) (ob : AObj)
    (hmu : ∀ j, j ≠ o → γ'.mu j = γ.mu j) (hnew : ∀ b, γ'.mu o = some b → w.heap.size ≤ b ∧ b < w'.heap.size)
    (hold : ∀ b, b < w.heap.size → w'.heap[b]? = w.heap[b]?) (hsz : w.heap.size ≤ w'.heap.size) (hfz : ∀ b k, γ.fz b k → γ'.fz b k)
    (hfz' : ∀ b k, γ'.fz b k → γ.fz b k ∨ (w.heap.size ≤ b ∧ ∃ v, w'.cell? ⟨b, k, none⟩ = some v)) (h1 : w'.os = w.os) (h2 : w'.output = w.output) (h3 : w'.tape = w.tape)
    (hk : Keep γ w γ' w' o ob0 (some ob)) (hok : Ext S.length γ S w γ' (S.set o ob) w' → ObjOk γ' (S.set o ob) w' o ob) (hgl : γ'.gl = γ.gl := by rfl) : Inv γ' (S.set o ob) w' ∧ Ext S.length γ S w γ' (S.set o ob) w' := by
  have hlt : o < S.length := (List.getElem?_eq_some_iff.1 ho0).1
  have hget : ∀ j, (S.set o ob)[j]? = if o = j then some ob else S[j]? := fun j => by
    rw [List.getElem?_set]
    by_cases h : o = j
    · subst h; simp [hlt]
    · simp [h]
  have he : Ext S.length γ S w γ' (S.set o ob) w' := by
    refine ⟨Nat.le_refl _, by simp, hfz, fun b k h => cell_of_heap (hold b (hI.fz_lt h)) k, hsz, fun j x hj hx => ?_, fun b hb _ => hold b hb, fun b ⟨j, hj, hbj⟩ => ?_, fun b k h => (hfz' b k h).imp id fun h => .inl h.1, h1, h2, h3, hgl⟩
    · by_cases hjo : o = j
      · subst hjo
        rw [ho0] at hx
        cases hx
        rw [hget, if_pos rfl]
        exact hk
      · have hS' : (S.set o ob)[j]? = some x := by rw [hget, if_neg hjo]; exact hx
        rw [hS']
        exact Keep.refl x (hmu j (Ne.symm hjo)) fun b hb => hold b (hI.lt j b hj hb)
    · by_cases hjo : j = o
      · subst hjo
        exact .inr (hnew b hbj).1
      · exact .inl ⟨j, by simpa using hj, (hmu j hjo) ▸ hbj⟩
  refine ⟨⟨fun j x hx => ?_, fun j j' b k1 k2 k3 k4 => ?_, fun b k h => ?_, fun j b hj hb => ?_, hI.gl_ext he⟩, he⟩
  · rw [hget] at hx
    by_cases hjo : o = j
    · subst hjo
      rw [if_pos rfl] at hx
      cases hx
      exact hok he
    · rw [if_neg hjo] at hx
      have hj : j < S.length := (List.getElem?_eq_some_iff.1 hx).1
      refine (hI.obj j x hx).mono he (hmu j (Ne.symm hjo)) fun b hb => ⟨hold b (hI.lt j b hj hb), fun off hf => ?_⟩
      rcases hfz' b off hf with hf | ⟨hf, _⟩
      · exact hf
      · have := hI.lt j b hj hb; omega
  · simp at k1 k2
    by_cases h1 : j = o
    · by_cases h2 : j' = o
      · rw [h1, h2]
      · subst h1
        rw [hmu j' h2] at k4
        have := hI.lt j' b k2 k4
        have := (hnew b k3).1
        omega
    · rw [hmu j h1] at k3
      by_cases h2 : j' = o
      · subst h2
        have := hI.lt j b k1 k3
        have := (hnew b k4).1
        omega
      · rw [hmu j' h2] at k4
        exact hI.inj j j' b k1 k2 k3 k4
  · rcases hfz' b k h with h | h
    · obtain ⟨x, hx⟩ := hI.fzin b k h
      exact ⟨x, (cell_of_heap (hold b (hI.fz_lt h)) k).trans hx⟩
    · exact h.2
  · simp at hj
    by_cases h1 : j = o
    · subst h1; exact (hnew b hb).2
    · rw [hmu j h1] at hb
      have := hI.lt j b hj hb; omega

theorem fill {γ γ' : Gh} {S : St} {w w' : World} (hI : Inv γ S w) {o : Nat} (hdead : S[o]? = some .dead) (hnone : γ.mu o = none) (ob : AObj) (hob : ob ≠ .dead)
    (hmu : ∀ j, j ≠ o → γ'.mu j = γ.mu j) (hnew : ∀ b, γ'.mu o = some b → w.heap.size ≤ b ∧ b < w'.heap.size)
    (hold : ∀ b, b < w.heap.size → w'.heap[b]? = w.heap[b]?) (hsz : w.heap.size ≤ w'.heap.size) (hfz : ∀ b k, γ.fz b k → γ'.fz b k)
    (hfz' : ∀ b k, γ'.fz b k → γ.fz b k ∨ (w.heap.size ≤ b ∧ ∃ v, w'.cell? ⟨b, k, none⟩ = some v)) (h1 : w'.os = w.os) (h2 : w'.output = w.output) (h3 : w'.tape = w.tape)
    (hok : Ext S.length γ S w γ' (S.set o ob) w' → ObjOk γ' (S.set o ob) w' o ob) (hgl : γ'.gl = γ.gl := by rfl) : Inv γ' (S.set o ob) w' ∧ Ext S.length γ S w γ' (S.set o ob) w' :=
  renew hI hdead ob hmu hnew hold hsz hfz hfz' h1 h2 h3 (fun hd => absurd (Option.some.inj hd) hob) hok hgl

/-- a row that nobody uses any more -/
theorem kill_row {γ : Gh} {S : St} {w : World} (hI : Inv γ S w) {o e sz : Nat} {xs : List D} (ho : S[o]? = some (.row e sz xs)) :
    Inv (γ.at o none) (S.set o .gone) w ∧ Ext S.length γ S w (γ.at o none) (S.set o .gone) w :=
  renew hI ho .gone (fun j hj => by simp [Gh.at, hj]) (fun b hb => by simp [Gh.at] at hb) (fun _ _ => rfl) (Nat.le_refl _) (fun _ _ h => h) (fun _ _ h => .inl h) rfl rfl rfl (.inl rfl) (fun _ => by simp [ObjOk, Gh.at])

/-- one place more, that nobody uses -/
theorem more_dead {γ : Gh} {S : St} {w : World} (hI : Inv γ S w) : Inv (γ.at S.length none) (S ++ [.dead]) w ∧ Ext S.length γ S w (γ.at S.length none) (S ++ [.dead]) w ∧ (γ.at S.length none).mu S.length = none := by
  have hmu : ∀ j, j < S.length → (γ.at S.length none).mu j = γ.mu j := fun j hj => by simp [Gh.at, Nat.ne_of_lt hj]
  have hlast : ∀ j b, S.length ≤ j → j < (S ++ [AObj.dead]).length → (γ.at S.length none).mu j = some b → False := fun j b h1 h2 h3 => by
    simp at h2
    obtain rfl : j = S.length := by omega
    simp [Gh.at] at h3
  have he : Ext S.length γ S w (γ.at S.length none) (S ++ [.dead]) w := by
    refine ⟨Nat.le_refl _, by simp, fun _ _ h => h, fun _ _ _ => rfl, Nat.le_refl _, fun o ob ho hob => ?_, fun _ _ _ => rfl, fun b ⟨o, ho, hbo⟩ => ?_, fun _ _ h => .inl h, rfl, rfl, rfl, rfl⟩
    · have hS : (S ++ [AObj.dead])[o]? = some ob := by rw [List.getElem?_append_left ho]; exact hob
      rw [hS]
      exact Keep.refl ob (hmu o ho) fun _ _ => rfl
    · by_cases h : o < S.length
      · exact .inl ⟨o, h, (hmu o h) ▸ hbo⟩
      · exact (hlast o b (by omega) ho hbo).elim
  refine ⟨⟨fun o ob hob => ?_, fun o o' b h1 h2 h3 h4 => ?_, hI.fzin, fun o b ho hbo => ?_, hI.gl_ext he⟩, he, by simp [Gh.at]⟩
  · by_cases h : o < S.length
    · rw [List.getElem?_append_left h] at hob
      exact (hI.obj o ob hob).mono he (hmu o h) fun b _ => ⟨rfl, fun _ h => h⟩
    · rw [List.getElem?_append_right (by omega)] at hob
      have ho : o - S.length = 0 := by
        have := (List.getElem?_eq_some_iff.1 hob).1
        simp at this; omega
      rw [ho] at hob
      simp at hob
      subst hob
      trivial
  · by_cases k1 : o < S.length
    · by_cases k2 : o' < S.length
      · exact hI.inj o o' b k1 k2 ((hmu o k1) ▸ h3) ((hmu o' k2) ▸ h4)
      · exact (hlast o' b (by omega) h2 h4).elim
    · exact (hlast o b (by omega) h1 h3).elim
  · by_cases k1 : o < S.length
    · exact hI.lt o b k1 ((hmu o k1) ▸ hbo)
    · exact (hlast o b (by omega) ho hbo).elim

/-! ### a new box -/
theorem new_box {γ : Gh} {S : St} {w : World} (hI : Inv γ S w) {o : Nat} (hdead : S[o]? = some .dead) (hnone : γ.mu o = none) (cs : List V) (vs : Array Value) (e : TypeId) (hl : vs.size = cs.length)
    (h : ∀ (i : Nat) (x : V) (v : Value), cs[i]? = some x → vs[i]? = some v → v.oneCell' = true ∧ RV γ S w x v) :
    Inv (γ.at o (some w.heap.size)) (S.set o (.box cs)) (w.alloc (.cells vs e)) ∧ Ext S.length γ S w (γ.at o (some w.heap.size)) (S.set o (.box cs)) (w.alloc (.cells vs e)) ∧
    RV (γ.at o (some w.heap.size)) (S.set o (.box cs)) (w.alloc (.cells vs e)) (.ptr o 0) (.pointer (some ⟨w.heap.size, 0, none⟩)) := by
  have hlt : o < S.length := (List.getElem?_eq_some_iff.1 hdead).1
  obtain ⟨h1, h2⟩ := fill (γ' := γ.at o (some w.heap.size)) (w' := w.alloc (.cells vs e)) hI hdead hnone (.box cs) (fun h => by cases h) (fun j hj => by simp [Gh.at, hj])
    (fun b hb => by simp [Gh.at] at hb; subst hb; simp) (fun b hb => heap_alloc_old w _ b hb) (by simp) (fun _ _ h => h) (fun _ _ h => .inl h) rfl rfl rfl
    (fun he => ⟨w.heap.size, vs, e, by simp [Gh.at], heap_alloc_new w _, hl, fun i x v hx hv => ⟨(h i x v hx hv).1, (h i x v hx hv).2.mono he⟩, fun off hf =>
      absurd (hI.fz_lt (b := w.heap.size) (o := off) hf) (Nat.lt_irrefl _)⟩)
  exact ⟨h1, h2, .ptr _ 0 _ cs (by rw [List.getElem?_set]; simp [hlt]) (by simp [Gh.at])⟩

/-! ### a new row of cells that nobody writes any more -/
def Gh.freeze (γ : Gh) (b n : Nat) : Gh := { γ with fz := fun c o => γ.fz c o ∨ (c = b ∧ o < n) }

theorem new_frozen {γ : Gh} {S : St} {w : World} (hI : Inv γ S w) (vs : Array Value) (e : TypeId) (n : Nat) (hn : n ≤ vs.size) :
    Inv (γ.freeze w.heap.size n) S (w.alloc (.cells vs e)) ∧ Ext S.length γ S w (γ.freeze w.heap.size n) S (w.alloc (.cells vs e)) := by
  have he := Ext.alloc (γ' := γ.freeze w.heap.size n) hI (.cells vs e) [] (fun _ _ => rfl) (fun i b h1 h2 h3 => by simp at h2; omega) (fun _ _ h => .inl h)
    (fun b o h => h.imp id (fun h => by rw [h.1]; exact Nat.le_refl _))
  have hv := Inv.alloc (γ' := γ.freeze w.heap.size n) hI (.cells vs e) [] (fun _ _ => rfl) (fun i b h1 h2 h3 => by simp at h2; omega) (fun _ _ h => .inl h)
    (fun b o h => h.imp id (fun h => ⟨h.1, by obtain ⟨rfl, h2⟩ := h; exact ⟨vs[o]'(by omega), by simp⟩⟩))
    (fun i i' b h1 h2 h3 h4 _ _ => by simp at h3; omega) (fun i ob hob => by simp at hob)
  simp only [List.append_nil] at he hv
  exact ⟨hv, he⟩

/-! ### one object turned in place -/
theorem List.getElem?_set' {α : Type} (l : List α) (i j : Nat) (a : α) (h : i < l.length) : (l.set i a)[j]? = if i = j then some a else l[j]? := by
  rw [List.getElem?_set]
  by_cases hij : i = j
  · subst hij; simp [h]
  · simp [hij]

theorem Ext.setObj {γ γ' : Gh} {S : St} {w w' : World} (hI : Inv γ S w) {o b : Nat} {ob ob' : AObj} (ho : S[o]? = some ob) (hb : γ.mu o = some b)
    (hmu : ∀ i, i < S.length → γ'.mu i = γ.mu i) (hsz : w'.heap.size = w.heap.size) (hh : ∀ c, c ≠ b → w'.heap[c]? = w.heap[c]?)
    (hfz : ∀ c o, γ.fz c o → γ'.fz c o) (hfz' : ∀ c o, γ'.fz c o → γ.fz c o ∨ c = b) (hcell : ∀ off, γ.fz b off → w'.cell? ⟨b, off, none⟩ = w.cell? ⟨b, off, none⟩)
    (hk : Keep γ w γ' w' o ob (some ob')) (h1 : w'.os = w.os) (h2 : w'.output = w.output) (h3 : w'.tape = w.tape) (hgl : γ'.gl = γ.gl := by rfl) : Ext S.length γ S w γ' (S.set o ob') w' := by
  have hlt : o < S.length := (List.getElem?_eq_some_iff.1 ho).1
  refine ⟨Nat.le_refl _, by simp, hfz, fun c off hc => ?_, by omega, fun i x hi hx => ?_, fun c hc hn => hh c fun hcb => hn ⟨o, hlt, hcb ▸ hb⟩, fun c hc => .inl ?_, fun c off hc => ?_, h1, h2, h3, hgl⟩
  · by_cases hcb : c = b
    · subst hcb; exact hcell off hc
    · exact cell_of_heap (hh c hcb) off
  · rw [List.getElem?_set' _ _ _ _ hlt]
    by_cases hio : o = i
    · subst hio
      obtain rfl : ob = x := by rw [ho] at hx; exact Option.some.inj hx
      simpa using hk
    · simp only [hio, if_false]
      have hne : ∀ c, γ.mu i = some c → c ≠ b := fun c hc hcb => hio (hI.inj o i b hlt hi hb (hcb ▸ hc))
      rw [hx]
      exact Keep.refl x (hmu i hi) fun c hc => hh c (hne c hc)
  · obtain ⟨i, hi, hm⟩ := hc
    simp at hi
    exact ⟨i, hi, (hmu i hi) ▸ hm⟩
  · rcases hfz' c off hc with h | h
    · exact .inl h
    · exact .inr (.inr ⟨o, hlt, h ▸ hb⟩)

theorem Inv.setObj {γ γ' : Gh} {S : St} {w w' : World} (hI : Inv γ S w) {o b : Nat} {ob ob' : AObj} (ho : S[o]? = some ob) (hb : γ.mu o = some b)
    (hmu : ∀ i, i < S.length → γ'.mu i = γ.mu i) (hsz : w'.heap.size = w.heap.size) (hh : ∀ c, c ≠ b → w'.heap[c]? = w.heap[c]?)
    (hfz' : ∀ c o, γ'.fz c o → γ.fz c o ∨ (c = b ∧ ∃ v, w'.cell? ⟨b, o, none⟩ = some v))
    (he : Ext S.length γ S w γ' (S.set o ob') w') (hok : ObjOk γ' (S.set o ob') w' o ob') : Inv γ' (S.set o ob') w' := by
  have hlt : o < S.length := (List.getElem?_eq_some_iff.1 ho).1
  refine ⟨fun i x hx => ?_, fun i i' c h1 h2 h3 h4 => ?_, fun c off hc => ?_, fun i c hi hc => ?_, hI.gl_ext he⟩
  · rw [List.getElem?_set' _ _ _ _ hlt] at hx
    by_cases hio : o = i
    · subst hio
      simp at hx
      subst hx
      exact hok
    · simp only [hio, if_false] at hx
      have hi : i < S.length := (List.getElem?_eq_some_iff.1 hx).1
      have hne : ∀ c, γ.mu i = some c → c ≠ b := fun c hc hcb => hio (hI.inj o i b hlt hi hb (hcb ▸ hc))
      refine (hI.obj i x hx).mono he (hmu i hi) fun c hc => ⟨hh c (hne c hc), fun off hf => ?_⟩
      rcases hfz' c off hf with h | h
      · exact h
      · exact absurd h.1 (hne c hc)
  · simp at h1 h2
    exact hI.inj i i' c h1 h2 ((hmu i h1) ▸ h3) ((hmu i' h2) ▸ h4)
  · rcases hfz' c off hc with h | ⟨rfl, h⟩
    · obtain ⟨v, hv⟩ := hI.fzin c off h
      exact ⟨v, (he.cell c off h).trans hv⟩
    · exact h
  · simp at hi
    rw [hsz]
    exact hI.lt i c hi ((hmu i hi) ▸ hc)

/-! ### writes -/
def applyW (S : St) (W : List (Nat × AObj)) : St := W.foldl (fun S p => S.set p.1 p.2) S
theorem applyW_length (S : St) (W : List (Nat × AObj)) : (applyW S W).length = S.length := by
  unfold applyW
  induction W generalizing S with
  | nil => rfl
  | cons p W ih => rw [List.foldl_cons, ih]; simp
theorem applyW_other {S : St} {W : List (Nat × AObj)} {o : Nat} (h : ∀ p ∈ W, p.1 ≠ o) : (applyW S W)[o]? = S[o]? := by
  unfold applyW
  induction W generalizing S with
  | nil => rfl
  | cons p W ih =>
    rw [List.foldl_cons, ih (fun q hq => h q (List.mem_cons_of_mem _ hq)), List.getElem?_set_ne (h p (by simp))]
theorem applyW_hit {W : List (Nat × AObj)} : ∀ {S : St} {p : Nat × AObj}, (W.map (·.1)).Nodup → p ∈ W → p.1 < S.length → (applyW S W)[p.1]? = some p.2 := by
  induction W with
  | nil => intro S p _ h; cases h
  | cons q W ih =>
    intro S p hn h hlt
    simp only [List.map_cons, List.nodup_cons] at hn
    show (applyW (S.set q.1 q.2) W)[p.1]? = some p.2
    rcases List.mem_cons.1 h with rfl | h
    · rw [applyW_other (fun r hr e => hn.1 (List.mem_map.2 ⟨r, hr, e⟩))]
      simp [hlt]
    · exact ih hn.2 h (by simpa using hlt)


end Go.Wm
