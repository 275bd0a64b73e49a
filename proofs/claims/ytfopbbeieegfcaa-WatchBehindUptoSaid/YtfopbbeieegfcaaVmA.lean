/-
  A part of the proof: an abstract run of the program, shown to be what the model does, and what it comes to.
-/
import Derived.Calls
import Derived.Laws.AppendOwn
import Derived.Laws.OwnMore
import Derived.Laws.StructEq
import Derived.Laws.Strings
import Derived.Laws.Slices
import Derived.Laws.Tables
set_option linter.unusedVariables false
set_option linter.unusedSimpArgs false
set_option linter.unusedSectionVars false
set_option linter.unnecessarySimpa false
namespace Go.Vm

/-- data that nobody writes any more -/
inductive D where
  | bool (b : Bool) | int (k : IntKind) (n : Int) | str (s : ByteArray)
  | sl (nn : Bool) (sz : Nat) (xs : List D)
  | agg (cs : List D)
  | nilp | nilf | nili | nilm
  | fn (f : Fn)
deriving Inhabited

def D.one : D → Bool
  | .agg _ => false
  | _ => true
def D.cells : D → List D
  | .agg cs => cs
  | x => [x]

inductive V where
  | any
  | d (x : D)
  | own (t : Nat) (nn : Bool) (sz : Nat) (xs : List D)
  | fsl (nn : Bool) (sz : Nat) (xs : List D)
  | ptr (o off : Nat)
  | cptr (sz : Nat) (x : D) (off : Nat)
  | fn (f : Fn) (first cap : List V)
  | agg (cs : List V)
  | tup (vs : List V)
deriving Inhabited

def V.one : V → Bool
  | .any | .agg _ | .tup _ => false
  | .d x => x.one
  | _ => true
def V.cells : V → List V
  | .agg cs => cs
  | .d (.agg cs) => cs.map .d
  | x => [x]

inductive AObj where
  | box (cs : List V)
  | tok (e f sz : Nat)
  | dead
deriving Inhabited
abbrev St := List AObj

structure Gh where
  mu : Nat → Option Nat
  fz : Nat → Nat → Prop

inductive RD (fz : Nat → Nat → Prop) (w : World) : D → Value → Prop
  | bool (b : Bool) : RD fz w (.bool b) (.bool b)
  | int (k : IntKind) (n : Int) : RD fz w (.int k n) (.int k n)
  | str (s : ByteArray) : RD fz w (.str s) (.string s)
  | nils (sz : Nat) : RD fz w (.sl true sz []) (.slice none 0 0)
  | sl (sz : Nat) (xs : List D) (a : Addr) (cap : Nat) (vs : Nat → Nat → Value)
      (hs : xs = [] ∨ a.spot = none) (hcap : xs.length ≤ cap) (hmax : cap ≤ maxLen)
      (hsz : ∀ x ∈ xs, x.cells.length = sz ∧ ∀ y ∈ x.cells, y.one = true)
      (hc : ∀ (i j : Nat), i < xs.length → j < sz → fz a.block (a.off + i * sz + j) ∧ w.cell? ⟨a.block, a.off + i * sz + j, none⟩ = some (vs i j))
      (hr : ∀ (i j : Nat) (x y : D), xs[i]? = some x → x.cells[j]? = some y → RD fz w y (vs i j)) :
      RD fz w (.sl false sz xs) (.slice (some a) xs.length cap)
  | agg (cs : List D) (vs : Array Value) (hl : vs.size = cs.length) (h1 : ∀ y ∈ cs, y.one = true)
      (hr : ∀ (j : Nat) (y : D) (v : Value), cs[j]? = some y → vs[j]? = some v → RD fz w y v) : RD fz w (.agg cs) (.agg vs)
  | nilp : RD fz w .nilp (.pointer none)
  | nilf : RD fz w .nilf .nilFunc
  | nili : RD fz w .nili .nilIface
  | nilm : RD fz w .nilm (.map none)
  | fn (f : Fn) : RD fz w (.fn f) (.func f #[] #[])

theorem RD.mono {fz fz' : Nat → Nat → Prop} {w w' : World} {x : D} {v : Value} (h : RD fz w x v)
    (hf : ∀ b o, fz b o → fz' b o) (hc : ∀ b o, fz b o → w'.cell? ⟨b, o, none⟩ = w.cell? ⟨b, o, none⟩) : RD fz' w' x v := by
  induction h with
  | sl sz xs a cap vs hs hcap hmax hsz hcell hr ih =>
    exact .sl sz xs a cap vs hs hcap hmax hsz (fun i j hi hj => ⟨hf _ _ (hcell i j hi hj).1, (hc _ _ (hcell i j hi hj).1).trans (hcell i j hi hj).2⟩) ih
  | agg cs vs hl h1 hr ih => exact .agg cs vs hl h1 ih
  | _ => constructor

theorem RD.oneCell {fz : Nat → Nat → Prop} {w : World} {x : D} {v : Value} (h : RD fz w x v) (h1 : x.one = true) : v.oneCell' = true := by
  cases h <;> first | rfl | (simp [D.one] at h1)

theorem RD.one_of {fz : Nat → Nat → Prop} {w : World} {x : D} {v : Value} (h : RD fz w x v) (h1 : v.oneCell' = true) : x.one = true := by
  cases h <;> first | rfl | (simp [Value.oneCell'] at h1)

theorem RD.cells_one {fz : Nat → Nat → Prop} {w : World} {x : D} {v : Value} (h : RD fz w x v) (h1 : x.one = true) : x.cells = [x] ∧ v.cells = #[v] := by
  cases h <;> first | exact ⟨rfl, rfl⟩ | (simp [D.one] at h1)

theorem RD.cells_size {fz : Nat → Nat → Prop} {w : World} {x : D} {v : Value} (h : RD fz w x v) : v.cells.size = x.cells.length := by
  cases h <;> first | rfl | (simp [D.cells, Value.cells, *])

theorem RD.cells_at {fz : Nat → Nat → Prop} {w : World} {x : D} {v : Value} (h : RD fz w x v) {j : Nat} {y : D} {u : Value}
    (hy : x.cells[j]? = some y) (hu : v.cells[j]? = some u) : RD fz w y u := by
  by_cases h1 : x.one = true
  · obtain ⟨e1, e2⟩ := h.cells_one h1
    rw [e1] at hy; rw [e2] at hu
    cases j with
    | zero => simp at hy hu; subst hy; subst hu; exact h
    | succ j => simp at hy
  · cases h <;> first | (simp [D.one] at h1; done) | skip
    rename_i cs vs hl h1' hr
    exact hr j y u hy hu

theorem D.cells_one_of_mem {fz : Nat → Nat → Prop} {w : World} {x : D} {v : Value} (h : RD fz w x v) {j : Nat} {y : D} (hy : x.cells[j]? = some y) : y.one = true := by
  by_cases h1 : x.one = true
  · obtain ⟨e1, _⟩ := h.cells_one h1
    rw [e1] at hy
    cases j with
    | zero => simp at hy; subst hy; exact h1
    | succ j => simp at hy
  · cases h <;> first | (simp [D.one] at h1; done) | skip
    rename_i cs vs hl h1' hr
    exact h1' y (List.mem_of_getElem? hy)

theorem RD.sl_inv {fz : Nat → Nat → Prop} {w : World} {nn : Bool} {sz : Nat} {xs : List D} {v : Value} (h : RD fz w (.sl nn sz xs) v) :
    (nn = true ∧ xs = [] ∧ v = .slice none 0 0) ∨
    (nn = false ∧ ∃ (a : Addr) (cap : Nat) (vs : Nat → Nat → Value), v = .slice (some a) xs.length cap ∧ (xs = [] ∨ a.spot = none) ∧ xs.length ≤ cap ∧ cap ≤ maxLen ∧ (∀ x ∈ xs, x.cells.length = sz ∧ ∀ y ∈ x.cells, y.one = true) ∧
      (∀ (i j : Nat), i < xs.length → j < sz → fz a.block (a.off + i * sz + j) ∧ w.cell? ⟨a.block, a.off + i * sz + j, none⟩ = some (vs i j)) ∧
      (∀ i j x y, xs[i]? = some x → x.cells[j]? = some y → RD fz w y (vs i j))) := by
  cases h with
  | nils => exact .inl ⟨rfl, rfl, rfl⟩
  | sl _ _ a cap vs hs hcap hmax hsz hc hr => exact .inr ⟨rfl, _, _, vs, rfl, hs, hcap, hmax, hsz, hc, hr⟩

/-- a slice's block, where one may append in place -/
def TokOk (γ : Gh) (w : World) (t e sz n : Nat) (v : Value) : Prop :=
  v = .slice none 0 0 ∨ (∃ a, v = .slice a n n) ∨
    ∃ b cap cur, γ.mu t = some b ∧ v = .slice (some ⟨b, 0, none⟩) n cap ∧ w.heap[b]? = some (.cells cur e (0, 0)) ∧ n ≤ cap ∧ cap ≤ maxLen ∧ cur.size = cap * sz

inductive RV (γ : Gh) (S : St) (w : World) : V → Value → Prop
  | any (v : Value) : RV γ S w .any v
  | d (x : D) (v : Value) (h : RD γ.fz w x v) : RV γ S w (.d x) v
  | own (t : Nat) (nn : Bool) (e sz f : Nat) (xs : List D) (v : Value) (ht : S[t]? = some (.tok e f sz)) (hf : xs.length ≤ f)
      (hd : RD γ.fz w (.sl (nn && xs.isEmpty) sz xs) v) (hk : xs.length = f → TokOk γ w t e sz xs.length v) : RV γ S w (.own t nn sz xs) v
  | fsl (nn : Bool) (sz : Nat) (xs : List D) (a : Option Addr) (hd : RD γ.fz w (.sl nn sz xs) (.slice a xs.length xs.length)) : RV γ S w (.fsl nn sz xs) (.slice a xs.length xs.length)
  | ptr (o off b : Nat) (cs : List V) (ho : S[o]? = some (.box cs)) (hb : γ.mu o = some b) : RV γ S w (.ptr o off) (.pointer (some ⟨b, off, none⟩))
  | cptr (sz off b o : Nat) (x : D) (vs : Nat → Value) (hsz : x.cells.length = sz)
      (hc : ∀ (j : Nat), j < sz → γ.fz b (o + j) ∧ w.cell? ⟨b, o + j, none⟩ = some (vs j))
      (hr : ∀ (j : Nat) (y : D), x.cells[j]? = some y → y.one = true ∧ RD γ.fz w y (vs j)) : RV γ S w (.cptr sz x off) (.pointer (some ⟨b, o + off, none⟩))
  | fn (f : Fn) (first cap : List V) (vf vc : Array Value) (h1 : vf.size = first.length) (h2 : vc.size = cap.length)
      (hf : ∀ (j : Nat) (y : V) (v : Value), first[j]? = some y → vf[j]? = some v → RV γ S w y v) (hc : ∀ (j : Nat) (y : V) (v : Value), cap[j]? = some y → vc[j]? = some v → RV γ S w y v) : RV γ S w (.fn f first cap) (.func f vf vc)
  | agg (cs : List V) (vs : Array Value) (hl : vs.size = cs.length) (h1 : ∀ (j : Nat) (v : Value), vs[j]? = some v → v.oneCell' = true)
      (hr : ∀ (j : Nat) (y : V) (v : Value), cs[j]? = some y → vs[j]? = some v → RV γ S w y v) : RV γ S w (.agg cs) (.agg vs)
  | tup (cs : List V) (vs : Array Value) (hl : vs.size = cs.length)
      (hr : ∀ (j : Nat) (y : V) (v : Value), cs[j]? = some y → vs[j]? = some v → RV γ S w y v) : RV γ S w (.tup cs) (.tuple vs)

theorem RV.oneCell {γ : Gh} {S : St} {w : World} {x : V} {v : Value} (h : RV γ S w x v) (h1 : x.one = true) : v.oneCell' = true := by
  cases h with
  | any => simp [V.one] at h1
  | d x v h => exact h.oneCell h1
  | own t nn e sz f xs v ht hf hd hk => exact hd.oneCell rfl
  | agg => simp [V.one] at h1
  | tup => simp [V.one] at h1
  | _ => rfl

def blocks (γ : Gh) (S : St) (b : Nat) : Prop := ∃ o, o < S.length ∧ γ.mu o = some b

def ObjOk (γ : Gh) (S : St) (w : World) (o : Nat) : AObj → Prop
  | .box cs => ∃ b vs e, γ.mu o = some b ∧ w.heap[b]? = some (.cells vs e (0, 0)) ∧ vs.size = cs.length ∧
      (∀ (i : Nat) (x : V) (v : Value), cs[i]? = some x → vs[i]? = some v → v.oneCell' = true ∧ RV γ S w x v) ∧ ∀ off, ¬ γ.fz b off
  | .tok e f sz => ∀ b, γ.mu o = some b → (∃ cur, w.heap[b]? = some (.cells cur e (0, 0))) ∧ ∀ off, f * sz ≤ off → ¬ γ.fz b off
  | .dead => True

structure Inv (γ : Gh) (S : St) (w : World) : Prop where
  obj : ∀ o ob, S[o]? = some ob → ObjOk γ S w o ob
  inj : ∀ o o' b, o < S.length → o' < S.length → γ.mu o = some b → γ.mu o' = some b → o = o'
  fzin : ∀ b o, γ.fz b o → ∃ v, w.cell? ⟨b, o, none⟩ = some v
  lt : ∀ o b, o < S.length → γ.mu o = some b → b < w.heap.size

/-- what stays of an object of the state that a step began in -/
def Keep (γ : Gh) (w : World) (γ' : Gh) (w' : World) (o : Nat) : AObj → Option AObj → Prop
  | .box _, r => γ'.mu o = γ.mu o ∧ ∃ cs, r = some (.box cs)
  | .tok e f sz, r => ∃ f', r = some (.tok e f' sz) ∧ f ≤ f' ∧ (f' = f → γ'.mu o = γ.mu o ∧ ∀ b, γ.mu o = some b → w'.heap[b]? = w.heap[b]?)
  | .dead, r => r = some .dead → γ'.mu o = γ.mu o

structure Ext (n : Nat) (γ : Gh) (S : St) (w : World) (γ' : Gh) (S' : St) (w' : World) : Prop where
  len : n ≤ S.length
  len' : n ≤ S'.length
  fz : ∀ b o, γ.fz b o → γ'.fz b o
  cell : ∀ b o, γ.fz b o → w'.cell? ⟨b, o, none⟩ = w.cell? ⟨b, o, none⟩
  size : w.heap.size ≤ w'.heap.size
  obj : ∀ o ob, o < n → S[o]? = some ob → Keep γ w γ' w' o ob S'[o]?
  rest : ∀ b, b < w.heap.size → ¬ blocks γ S b → w'.heap[b]? = w.heap[b]?
  own : ∀ b, blocks γ' S' b → blocks γ S b ∨ w.heap.size ≤ b
  newfz : ∀ b o, γ'.fz b o → γ.fz b o ∨ w.heap.size ≤ b ∨ blocks γ S b
  os : w'.os = w.os
  output : w'.output = w.output
  tape : w'.tape = w.tape

theorem Ext.refl {γ : Gh} {S : St} {w : World} {n : Nat} (h : n ≤ S.length) : Ext n γ S w γ S w where
  len := h
  len' := h
  fz := fun _ _ h => h
  cell := fun _ _ _ => rfl
  size := Nat.le_refl _
  obj := fun o ob _ ho => by
    cases ob with
    | box cs => exact ⟨rfl, cs, ho⟩
    | tok e f sz => exact ⟨f, ho, Nat.le_refl _, fun _ => ⟨rfl, fun _ _ => rfl⟩⟩
    | dead => exact fun _ => rfl
  rest := fun _ _ _ => rfl
  own := fun _ h => .inl h
  newfz := fun _ _ h => .inl h
  os := rfl
  output := rfl
  tape := rfl

theorem Ext.trans {n : Nat} {γ γ1 γ2 : Gh} {S S1 S2 : St} {w w1 w2 : World} (h : Ext n γ S w γ1 S1 w1) (h' : Ext n γ1 S1 w1 γ2 S2 w2) : Ext n γ S w γ2 S2 w2 where
  len := h.len
  len' := h'.len'
  fz := fun b o hb => h'.fz b o (h.fz b o hb)
  cell := fun b o hb => (h'.cell b o (h.fz b o hb)).trans (h.cell b o hb)
  size := Nat.le_trans h.size h'.size
  obj := fun o ob ho hob => by
    have k1 := h.obj o ob ho hob
    cases ob with
    | box cs =>
      obtain ⟨e1, cs1, hs1⟩ := k1
      obtain ⟨e2, cs2, hs2⟩ := h'.obj o _ ho hs1
      exact ⟨e2.trans e1, cs2, hs2⟩
    | tok e f sz =>
      obtain ⟨f1, hs1, l1, q1⟩ := k1
      obtain ⟨f2, hs2, l2, q2⟩ := h'.obj o _ ho hs1
      refine ⟨f2, hs2, Nat.le_trans l1 l2, fun he => ?_⟩
      obtain rfl : f1 = f := by omega
      obtain ⟨a1, b1⟩ := q1 rfl
      obtain ⟨a2, b2⟩ := q2 he
      exact ⟨a2.trans a1, fun b hb => (b2 b (a1.trans hb)).trans (b1 b hb)⟩
    | dead =>
      intro h2
      have hlt : o < S1.length := Nat.lt_of_lt_of_le ho h.len'
      have e1 : S1[o]? = some S1[o] := by simp [hlt]
      have k2 := h'.obj o _ ho e1
      cases hS1 : S1[o] with
      | box cs => rw [hS1] at k2; obtain ⟨_, cs', g⟩ := k2; rw [h2] at g; cases g
      | tok e f sz => rw [hS1] at k2; obtain ⟨f', g, _⟩ := k2; rw [h2] at g; cases g
      | dead => rw [hS1] at k2 e1; exact (k2 h2).trans (k1 e1)
  rest := fun b hb hn => by
    have h1 := h.rest b hb hn
    refine (h'.rest b (Nat.lt_of_lt_of_le hb h.size) fun hbl => ?_).trans h1
    rcases h.own b hbl with h2 | h2
    · exact hn h2
    · omega
  own := fun b hb => by
    rcases h'.own b hb with h1 | h1
    · exact h.own b h1
    · exact .inr (Nat.le_trans h.size h1)
  newfz := fun b o hb => by
    rcases h'.newfz b o hb with h1 | h1 | h1
    · exact h.newfz b o h1
    · exact .inr (.inl (Nat.le_trans h.size h1))
    · rcases h.own b h1 with h2 | h2
      · exact .inr (.inr h2)
      · exact .inr (.inl h2)
  os := h'.os.trans h.os
  output := h'.output.trans h.output
  tape := h'.tape.trans h.tape

theorem Ext.less {n m : Nat} {γ γ1 : Gh} {S S1 : St} {w w1 : World} (h : Ext n γ S w γ1 S1 w1) (hm : m ≤ n) : Ext m γ S w γ1 S1 w1 :=
  { h with len := Nat.le_trans hm h.len, len' := Nat.le_trans hm h.len', obj := fun o ob ho => h.obj o ob (Nat.lt_of_lt_of_le ho hm) }

theorem RV.mono {γ γ' : Gh} {S S' : St} {w w' : World} {x : V} {v : Value} (h : RV γ S w x v) (he : Ext S.length γ S w γ' S' w') : RV γ' S' w' x v := by
  induction h with
  | any v => exact .any v
  | d x v h => exact .d x v (h.mono he.fz he.cell)
  | own t nn e sz f xs v ht hf hd hk =>
    have hlt : t < S.length := (List.getElem?_eq_some_iff.1 ht).1
    obtain ⟨f', hs', l', q'⟩ := he.obj t _ hlt ht
    refine .own t nn e sz f' xs v hs' (Nat.le_trans hf l') (hd.mono he.fz he.cell) fun hx => ?_
    obtain rfl : f' = f := by omega
    obtain ⟨a1, b1⟩ := q' rfl
    rcases hk hx with h1 | h1 | ⟨b, cap, cur, h1, h2, h3, h4⟩
    · exact .inl h1
    · exact .inr (.inl h1)
    · exact .inr (.inr ⟨b, cap, cur, a1.trans h1, h2, (b1 b h1).trans h3, h4⟩)
  | fsl nn sz xs a hd => exact .fsl nn sz xs a (hd.mono he.fz he.cell)
  | ptr o off b cs ho hb =>
    have hlt : o < S.length := (List.getElem?_eq_some_iff.1 ho).1
    obtain ⟨e1, cs', hs'⟩ := he.obj o _ hlt ho
    exact .ptr o off b cs' hs' (e1.trans hb)
  | cptr sz off b o x vs hsz hc hr =>
    exact .cptr sz off b o x vs hsz (fun j hj => ⟨he.fz _ _ (hc j hj).1, (he.cell _ _ (hc j hj).1).trans (hc j hj).2⟩) (fun j y hy => ⟨(hr j y hy).1, (hr j y hy).2.mono he.fz he.cell⟩)
  | fn f first cap vf vc h1 h2 hf hc ih1 ih2 => exact .fn f first cap vf vc h1 h2 ih1 ih2
  | agg cs vs hl h1 hr ih => exact .agg cs vs hl h1 ih
  | tup cs vs hl hr ih => exact .tup cs vs hl ih

end Go.Vm
