/-
  A part of the proof: an abstract run of the program, shown to be what the model does, and what it comes to.
-/
import Derived.Calls
import Derived.Laws.AppendOwn
import Derived.Laws.OwnMore
import Derived.Laws.StructEq
import Derived.Laws.Strings
import Derived.Laws.Slices
import Derived.Laws.Tables
set_option linter.unusedVariables false
set_option linter.unusedSimpArgs false
set_option linter.unnecessarySimpa false
set_option linter.defProp false
set_option linter.unusedSectionVars false
namespace Go.Wm

/-- data that nobody writes any more -/
inductive D where
  | bool (b : Bool) | int (k : IntKind) (n : Int) | str (s : List UInt8)
  | sl (xs : List D)
  | agg (cs : List D)
  | nilp | nilf | nili | nilm | err
  | fn (f : Fn)
deriving Inhabited

def D.one : D → Bool
  | .agg _ => false
  | _ => true
def D.cells : D → List D
  | .agg cs => cs
  | x => [x]

inductive V where
  | any
  | und
  | d (x : D)
  | nil
  | emp
  | own (t : Nat) (xs : List D)
  | fsl (xs : List D)
  | sl (o lo n : Nat)
  | csl (o lo n : Nat)
  | ptr (o off : Nat)
  | eptr (o i off : Nat)
  | cptr (x : D) (off : Nat)
  | mp (o : Nat)
  | fn (f : Fn) (first cap : List V)
  | agg (cs : List V)
  | tup (vs : List V)
deriving Inhabited

def V.one : V → Bool
  | .any | .und | .agg _ | .tup _ => false
  | .d x => x.one
  | _ => true
def V.cells : V → List V
  | .agg cs => cs
  | .d (.agg cs) => cs.map .d
  | x => [x]

inductive AObj where
  | box (cs : List V)
  | tok (e f sz : Nat)
  | row (e sz : Nat) (xs : List D)
  | fro (e sz : Nat) (xs : List D)
  | map (kvs : List (D × D))
  | dead
  | gone
deriving Inhabited
abbrev St := List AObj

/-- what one asks of the package variables -/
class GlobReq where
  req : List (Nat × Nat × Value) → Prop
instance (priority := low) noGlob : GlobReq := ⟨fun _ => True⟩
structure Gh where
  mu : Nat → Option Nat
  fz : Nat → Nat → Prop
  /-- cells that are known, and stay -/
  gl : List (Nat × Nat × Value)

inductive RD (fz : Nat → Nat → Prop) (w : World) : D → Value → Prop
  | bool (b : Bool) : RD fz w (.bool b) (.bool b)
  | int (k : IntKind) (n : Int) : RD fz w (.int k n) (.int k n)
  | str (l : List UInt8) (s : ByteArray) (h : s.data.toList = l) : RD fz w (.str l) (.string s)
  | nils : RD fz w (.sl []) (.slice none 0 0)
  | sl (sz : Nat) (xs : List D) (a : Addr) (cap : Nat) (vs : Nat → Nat → Value)
      (hs : xs = [] ∨ a.spot = none) (hcap : xs.length ≤ cap) (hmax : cap ≤ maxLen)
      (hsz : ∀ x ∈ xs, x.cells.length = sz ∧ ∀ y ∈ x.cells, y.one = true)
      (hc : ∀ (i j : Nat), i < xs.length → j < sz → fz a.block (a.off + i * sz + j) ∧ w.cell? ⟨a.block, a.off + i * sz + j, none⟩ = some (vs i j))
      (hr : ∀ (i j : Nat) (x y : D), xs[i]? = some x → x.cells[j]? = some y → RD fz w y (vs i j)) :
      RD fz w (.sl xs) (.slice (some a) xs.length cap)
  | agg (cs : List D) (vs : Array Value) (hl : vs.size = cs.length) (h1 : ∀ y ∈ cs, y.one = true)
      (hr : ∀ (j : Nat) (y : D) (v : Value), cs[j]? = some y → vs[j]? = some v → RD fz w y v) : RD fz w (.agg cs) (.agg vs)
  | nilp : RD fz w .nilp (.pointer none)
  | nilf : RD fz w .nilf .nilFunc
  | nili : RD fz w .nili .nilIface
  | nilm : RD fz w .nilm (.map none)
  | err (t : TypeId) (v : Value) : RD fz w .err (.iface t v)
  | fn (f : Fn) : RD fz w (.fn f) (.func f #[] #[])

theorem RD.mono {fz fz' : Nat → Nat → Prop} {w w' : World} {x : D} {v : Value} (h : RD fz w x v)
    (hf : ∀ b o, fz b o → fz' b o) (hc : ∀ b o, fz b o → w'.cell? ⟨b, o, none⟩ = w.cell? ⟨b, o, none⟩) : RD fz' w' x v := by
  induction h with
  | sl sz xs a cap vs hs hcap hmax hsz hcell hr ih =>
    exact .sl sz xs a cap vs hs hcap hmax hsz (fun i j hi hj => ⟨hf _ _ (hcell i j hi hj).1, (hc _ _ (hcell i j hi hj).1).trans (hcell i j hi hj).2⟩) ih
  | agg cs vs hl h1 hr ih => exact .agg cs vs hl h1 ih
  | str l s h => exact .str l s h
  | _ => constructor

theorem RD.oneCell {fz : Nat → Nat → Prop} {w : World} {x : D} {v : Value} (h : RD fz w x v) (h1 : x.one = true) : v.oneCell' = true := by
  cases h <;> first | rfl | (simp [D.one] at h1)

theorem RD.one_of {fz : Nat → Nat → Prop} {w : World} {x : D} {v : Value} (h : RD fz w x v) (h1 : v.oneCell' = true) : x.one = true := by
  cases h <;> first | rfl | (simp [Value.oneCell'] at h1)

theorem RD.cells_one {fz : Nat → Nat → Prop} {w : World} {x : D} {v : Value} (h : RD fz w x v) (h1 : x.one = true) : x.cells = [x] ∧ v.cells = #[v] := by
  cases h <;> first | exact ⟨rfl, rfl⟩ | (simp [D.one] at h1)

theorem RD.cells_size {fz : Nat → Nat → Prop} {w : World} {x : D} {v : Value} (h : RD fz w x v) : v.cells.size = x.cells.length := by
  cases h <;> first | rfl | (simp [D.cells, Value.cells, *])

theorem RD.cells_at {fz : Nat → Nat → Prop} {w : World} {x : D} {v : Value} (h : RD fz w x v) {j : Nat} {y : D} {u : Value}
    (hy : x.cells[j]? = some y) (hu : v.cells[j]? = some u) : RD fz w y u := by
  by_cases h1 : x.one = true
  · obtain ⟨e1, e2⟩ := h.cells_one h1
    rw [e1] at hy; rw [e2] at hu
    cases j with
    | zero => simp at hy hu; subst hy; subst hu; exact h
    | succ j => simp at hy
  · cases h <;> first | (simp [D.one] at h1; done) | skip
    rename_i cs vs hl h1' hr
    exact hr j y u hy hu

theorem D.cells_one_of_mem {fz : Nat → Nat → Prop} {w : World} {x : D} {v : Value} (h : RD fz w x v) {j : Nat} {y : D} (hy : x.cells[j]? = some y) : y.one = true := by
  by_cases h1 : x.one = true
  · obtain ⟨e1, _⟩ := h.cells_one h1
    rw [e1] at hy
    cases j with
    | zero => simp at hy; subst hy; exact h1
    | succ j => simp at hy
  · cases h <;> first | (simp [D.one] at h1; done) | skip
    rename_i cs vs hl h1' hr
    exact h1' y (List.mem_of_getElem? hy)

theorem RD.sl_inv {fz : Nat → Nat → Prop} {w : World} {xs : List D} {v : Value} (h : RD fz w (.sl xs) v) :
    (xs = [] ∧ v = .slice none 0 0) ∨
    (∃ (sz : Nat) (a : Addr) (cap : Nat) (vs : Nat → Nat → Value), v = .slice (some a) xs.length cap ∧ (xs = [] ∨ a.spot = none) ∧ xs.length ≤ cap ∧ cap ≤ maxLen ∧ (∀ x ∈ xs, x.cells.length = sz ∧ ∀ y ∈ x.cells, y.one = true) ∧
      (∀ (i j : Nat), i < xs.length → j < sz → fz a.block (a.off + i * sz + j) ∧ w.cell? ⟨a.block, a.off + i * sz + j, none⟩ = some (vs i j)) ∧
      (∀ i j x y, xs[i]? = some x → x.cells[j]? = some y → RD fz w y (vs i j))) := by
  cases h with
  | nils => exact .inl ⟨rfl, rfl⟩
  | sl sz _ a cap vs hs hcap hmax hsz hc hr => exact .inr ⟨sz, _, _, vs, rfl, hs, hcap, hmax, hsz, hc, hr⟩

/-- a slice's block, where one may append in place -/
def TokOk (γ : Gh) (w : World) (t e sz n : Nat) (v : Value) : Prop :=
  v = .slice none 0 0 ∨ (∃ a, v = .slice a n n) ∨
    ∃ b cap cur, γ.mu t = some b ∧ v = .slice (some ⟨b, 0, none⟩) n cap ∧ w.heap[b]? = some (.cells cur e (0, 0)) ∧ n ≤ cap ∧ cap ≤ maxLen ∧ cur.size = cap * sz

/-- where a piece of a row lies -/
def SlOk (γ : Gh) (w : World) (o e sz len lo n : Nat) (v : Value) : Prop :=
  lo + n ≤ len ∧ ((n = 0 ∧ ∃ a, v = .slice a 0 0) ∨
    ∃ b cap cur, γ.mu o = some b ∧ v = .slice (some ⟨b, lo * sz, none⟩) n cap ∧ n ≤ cap ∧ cap ≤ maxLen ∧ w.heap[b]? = some (.cells cur e (0, 0)) ∧ (lo + cap) * sz = cur.size)

/-- a row: its kind, its elements' size, how many -/
def AObj.rowOf : AObj → Option (Nat × Nat × List D)
  | .row e sz xs => some (e, sz, xs)
  | .fro e sz xs => some (e, sz, xs)
  | _ => none
def AObj.isRow (ob : AObj) : Prop := ob = .gone ∨ ∃ r, ob.rowOf = some r

/-- what a list's value looks like -/
def slVal (n : Nat) (v : Value) : Prop := v.oneCell' = true ∧ (0 < n → ∃ a m c, v = .slice (some a) m c)
theorem slVal.zero {v : Value} (h : v.oneCell' = true) : slVal 0 v := ⟨h, fun h => absurd h (by omega)⟩
theorem slVal.some {n : Nat} {a : Addr} {m c : Nat} : slVal n (.slice (some a) m c) := ⟨rfl, fun _ => ⟨a, m, c, rfl⟩⟩
inductive RV (γ : Gh) (S : St) (w : World) : V → Value → Prop
  | any (v : Value) : RV γ S w .any v
  | und : RV γ S w .und undef
  | d (x : D) (v : Value) (h : RD γ.fz w x v) : RV γ S w (.d x) v
  | nil : RV γ S w .nil (.slice none 0 0)
  | emp (a : Addr) (c : Nat) (hc : c ≤ maxLen) : RV γ S w .emp (.slice (some a) 0 c)
  | own (t : Nat) (e sz f : Nat) (xs : List D) (v : Value) (ht : S[t]? = some (.tok e f sz)) (hf : xs.length ≤ f)
      (hd : RD γ.fz w (.sl xs) v) (hk : xs.length = f → TokOk γ w t e sz xs.length v) (hz : ∀ x ∈ xs, x.cells.length = sz) : RV γ S w (.own t xs) v
  | fsl (xs : List D) (a : Option Addr) (hd : RD γ.fz w (.sl xs) (.slice a xs.length xs.length)) : RV γ S w (.fsl xs) (.slice a xs.length xs.length)
  | sl (o lo n : Nat) (ob : AObj) (v : Value) (h1 : slVal n v) (ho : S[o]? = some ob) (hb : ob.isRow) (h : ∀ e sz xs, ob.rowOf = some (e, sz, xs) → SlOk γ w o e sz xs.length lo n v) : RV γ S w (.sl o lo n) v
  | csl0 (o lo : Nat) (a : Option Addr) : RV γ S w (.csl o lo 0) (.slice a 0 0)
  | csl (o lo n cap : Nat) (a : Option Addr) (h : RV γ S w (.sl o lo n) (.slice a n cap)) : RV γ S w (.csl o lo n) (.slice a n n)
  | ptr (o off b : Nat) (cs : List V) (ho : S[o]? = some (.box cs)) (hb : γ.mu o = some b) : RV γ S w (.ptr o off) (.pointer (some ⟨b, off, none⟩))
  | eptr (o i off : Nat) (ob : AObj) (a : Addr) (ho : S[o]? = some ob) (hb : ob.isRow) (h : ∀ e sz xs, ob.rowOf = some (e, sz, xs) → ∃ b, γ.mu o = some b ∧ a = ⟨b, i * sz + off, none⟩) : RV γ S w (.eptr o i off) (.pointer (some a))
  | cptr (off b o : Nat) (x : D) (vs : Nat → Value)
      (hc : ∀ (j : Nat), j < x.cells.length → γ.fz b (o + j) ∧ w.cell? ⟨b, o + j, none⟩ = some (vs j))
      (hr : ∀ (j : Nat) (y : D), x.cells[j]? = some y → y.one = true ∧ RD γ.fz w y (vs j)) : RV γ S w (.cptr x off) (.pointer (some ⟨b, o + off, none⟩))
  | mp (o r : Nat) (kvs : List (D × D)) (ho : S[o]? = some (.map kvs)) (hb : γ.mu o = some r) : RV γ S w (.mp o) (.map (some r))
  | fn (f : Fn) (first cap : List V) (vf vc : Array Value) (h1 : vf.size = first.length) (h2 : vc.size = cap.length)
      (hf : ∀ (j : Nat) (y : V) (v : Value), first[j]? = some y → vf[j]? = some v → RV γ S w y v) (hc : ∀ (j : Nat) (y : V) (v : Value), cap[j]? = some y → vc[j]? = some v → RV γ S w y v) : RV γ S w (.fn f first cap) (.func f vf vc)
  | agg (cs : List V) (vs : Array Value) (hl : vs.size = cs.length) (h1 : ∀ (j : Nat) (v : Value), vs[j]? = some v → v.oneCell' = true)
      (hr : ∀ (j : Nat) (y : V) (v : Value), cs[j]? = some y → vs[j]? = some v → RV γ S w y v) : RV γ S w (.agg cs) (.agg vs)
  | tup (cs : List V) (vs : Array Value) (hl : vs.size = cs.length)
      (hr : ∀ (j : Nat) (y : V) (v : Value), cs[j]? = some y → vs[j]? = some v → RV γ S w y v) : RV γ S w (.tup cs) (.tuple vs)

theorem RV.oneCell {γ : Gh} {S : St} {w : World} {x : V} {v : Value} (h : RV γ S w x v) (h1 : x.one = true) : v.oneCell' = true := by
  cases h with
  | any => simp [V.one] at h1
  | und => simp [V.one] at h1
  | d x v h => exact h.oneCell h1
  | own t e sz f xs v ht hf hd hk hz => exact hd.oneCell rfl
  | sl o lo n ob v h1 => exact h1.1
  | agg => simp [V.one] at h1
  | tup => simp [V.one] at h1
  | _ => rfl

def blocks (γ : Gh) (S : St) (b : Nat) : Prop := ∃ o, o < S.length ∧ γ.mu o = some b

/-- a row's elements, in the cells of its block -/
def RowOk (fz : Nat → Nat → Prop) (w : World) (sz : Nat) (xs : List D) (cur : Array Value) : Prop :=
  (∀ x ∈ xs, x.cells.length = sz ∧ ∀ y ∈ x.cells, y.one = true) ∧ xs.length * sz ≤ cur.size ∧
  ∀ (i j : Nat) (x y : D), xs[i]? = some x → x.cells[j]? = some y → ∃ v, cur[i * sz + j]? = some v ∧ RD fz w y v

/-- the entries of a map -/
def MapOk (fz : Nat → Nat → Prop) (w : World) (kvs : List (D × D)) (es : Array MapEntry) (clock : Nat) : Prop :=
  es.size = kvs.length ∧ (∀ (i : Nat) (p : D × D) (e : MapEntry), kvs[i]? = some p → es[i]? = some e → RD fz w p.1 e.key ∧ RD fz w p.2 e.val ∧ e.born < clock) ∧
  ∀ (i j : Nat) (e e' : MapEntry), es[i]? = some e → es[j]? = some e' → e.born = e'.born → i = j

def ObjOk (γ : Gh) (S : St) (w : World) (o : Nat) : AObj → Prop
  | .box cs => ∃ b vs e, γ.mu o = some b ∧ w.heap[b]? = some (.cells vs e (0, 0)) ∧ vs.size = cs.length ∧
      (∀ (i : Nat) (x : V) (v : Value), cs[i]? = some x → vs[i]? = some v → v.oneCell' = true ∧ RV γ S w x v) ∧ ∀ off, ¬ γ.fz b off
  | .tok e f sz => ∀ b, γ.mu o = some b → (∃ cur, w.heap[b]? = some (.cells cur e (0, 0))) ∧ ∀ off, f * sz ≤ off → ¬ γ.fz b off
  | .row e sz xs => (γ.mu o = none → xs = []) ∧ ∀ b, γ.mu o = some b → (∃ cur, w.heap[b]? = some (.cells cur e (0, 0)) ∧ RowOk γ.fz w sz xs cur) ∧ ∀ off, ¬ γ.fz b off
  | .fro e sz xs => (γ.mu o = none → xs = []) ∧ ∀ b, γ.mu o = some b → (∃ cur, w.heap[b]? = some (.cells cur e (0, 0)) ∧ RowOk γ.fz w sz xs cur) ∧ ∀ k, k < xs.length * sz → γ.fz b k
  | .map kvs => ∃ r es clock, γ.mu o = some r ∧ w.heap[r]? = some (.map es clock) ∧ MapOk γ.fz w kvs es clock
  | .dead => True
  | .gone => γ.mu o = none

variable [GlobReq]
structure Inv (γ : Gh) (S : St) (w : World) : Prop where
  obj : ∀ o ob, S[o]? = some ob → ObjOk γ S w o ob
  inj : ∀ o o' b, o < S.length → o' < S.length → γ.mu o = some b → γ.mu o' = some b → o = o'
  fzin : ∀ b o, γ.fz b o → ∃ v, w.cell? ⟨b, o, none⟩ = some v
  lt : ∀ o b, o < S.length → γ.mu o = some b → b < w.heap.size
  gl : GlobReq.req γ.gl ∧ ∀ p ∈ γ.gl, γ.fz p.1 p.2.1 ∧ w.cell? ⟨p.1, p.2.1, none⟩ = some p.2.2

/-- a block of the same size and kind -/
def SameBlock (w w' : World) (e b : Nat) : Prop := ∀ cur, w.heap[b]? = some (.cells cur e (0, 0)) → ∃ cur', w'.heap[b]? = some (.cells cur' e (0, 0)) ∧ cur'.size = cur.size
theorem SameBlock.refl {w : World} {e b : Nat} : SameBlock w w e b := fun cur h => ⟨cur, h, rfl⟩
theorem SameBlock.of_heap {w w' : World} {e b : Nat} (h : w'.heap[b]? = w.heap[b]?) : SameBlock w w' e b := fun cur h' => ⟨cur, h.trans h', rfl⟩
theorem SameBlock.trans {w w1 w2 : World} {e b : Nat} (h : SameBlock w w1 e b) (h' : SameBlock w1 w2 e b) : SameBlock w w2 e b := fun cur hc => by
  obtain ⟨c1, g1, s1⟩ := h cur hc
  obtain ⟨c2, g2, s2⟩ := h' c1 g1
  exact ⟨c2, g2, s2.trans s1⟩

/-- what stays of an object of the state that a step began in -/
def Keep (γ : Gh) (w : World) (γ' : Gh) (w' : World) (o : Nat) : AObj → Option AObj → Prop
  | .box _, r => γ'.mu o = γ.mu o ∧ ∃ cs, r = some (.box cs)
  | .tok e f sz, r => ∃ f', r = some (.tok e f' sz) ∧ f ≤ f' ∧ (f' = f → γ'.mu o = γ.mu o ∧ ∀ b, γ.mu o = some b → w'.heap[b]? = w.heap[b]?)
  | .row e sz xs, r => r = some .gone ∨ (γ'.mu o = γ.mu o ∧ (∀ b, γ.mu o = some b → SameBlock w w' e b) ∧ ∃ xs', xs.length ≤ xs'.length ∧ (r = some (.row e sz xs') ∨ r = some (.fro e sz xs')))
  | .fro e sz xs, r => r = some .gone ∨ (γ'.mu o = γ.mu o ∧ (∀ b, γ.mu o = some b → SameBlock w w' e b) ∧ r = some (.fro e sz xs))
  | .map _, r => γ'.mu o = γ.mu o ∧ ∃ kvs, r = some (.map kvs)
  | .dead, r => r = some .dead → γ'.mu o = γ.mu o
  | .gone, r => r = some .gone

theorem Keep.refl {γ γ' : Gh} {w w' : World} {o : Nat} (ob : AObj) (hmu : γ'.mu o = γ.mu o) (hb : ∀ b, γ.mu o = some b → w'.heap[b]? = w.heap[b]?) : Keep γ w γ' w' o ob (some ob) := by
  cases ob with
  | box cs => exact ⟨hmu, cs, rfl⟩
  | tok e f sz => exact ⟨f, rfl, Nat.le_refl _, fun _ => ⟨hmu, hb⟩⟩
  | row e sz xs => exact .inr ⟨hmu, fun b h => .of_heap (hb b h), xs, Nat.le_refl _, .inl rfl⟩
  | fro e sz xs => exact .inr ⟨hmu, fun b h => .of_heap (hb b h), rfl⟩
  | map kvs => exact ⟨hmu, kvs, rfl⟩
  | dead => exact fun _ => hmu
  | gone => rfl

structure Ext (n : Nat) (γ : Gh) (S : St) (w : World) (γ' : Gh) (S' : St) (w' : World) : Prop where
  len : n ≤ S.length
  len' : n ≤ S'.length
  fz : ∀ b o, γ.fz b o → γ'.fz b o
  cell : ∀ b o, γ.fz b o → w'.cell? ⟨b, o, none⟩ = w.cell? ⟨b, o, none⟩
  size : w.heap.size ≤ w'.heap.size
  obj : ∀ o ob, o < n → S[o]? = some ob → Keep γ w γ' w' o ob S'[o]?
  rest : ∀ b, b < w.heap.size → ¬ blocks γ S b → w'.heap[b]? = w.heap[b]?
  own : ∀ b, blocks γ' S' b → blocks γ S b ∨ w.heap.size ≤ b
  newfz : ∀ b o, γ'.fz b o → γ.fz b o ∨ w.heap.size ≤ b ∨ blocks γ S b
  os : w'.os = w.os
  output : w'.output = w.output
  tape : w'.tape = w.tape
  gl : γ'.gl = γ.gl

theorem Ext.refl {γ : Gh} {S : St} {w : World} {n : Nat} (h : n ≤ S.length) : Ext n γ S w γ S w where
  len := h
  len' := h
  fz := fun _ _ h => h
  cell := fun _ _ _ => rfl
  size := Nat.le_refl _
  obj := fun o ob _ ho => by rw [ho]; exact Keep.refl ob rfl fun _ _ => rfl
  rest := fun _ _ _ => rfl
  own := fun _ h => .inl h
  newfz := fun _ _ h => .inl h
  os := rfl
  output := rfl
  tape := rfl
  gl := rfl

theorem Ext.trans {n : Nat} {γ γ1 γ2 : Gh} {S S1 S2 : St} {w w1 w2 : World} (h : Ext n γ S w γ1 S1 w1) (h' : Ext n γ1 S1 w1 γ2 S2 w2) : Ext n γ S w γ2 S2 w2 where
  len := h.len
  len' := h'.len'
  fz := fun b o hb => h'.fz b o (h.fz b o hb)
  cell := fun b o hb => (h'.cell b o (h.fz b o hb)).trans (h.cell b o hb)
  size := Nat.le_trans h.size h'.size
  obj := fun o ob ho hob => by
    have k1 := h.obj o ob ho hob
    cases ob with
    | box cs =>
      obtain ⟨e1, cs1, hs1⟩ := k1
      obtain ⟨e2, cs2, hs2⟩ := h'.obj o _ ho hs1
      exact ⟨e2.trans e1, cs2, hs2⟩
    | tok e f sz =>
      obtain ⟨f1, hs1, l1, q1⟩ := k1
      obtain ⟨f2, hs2, l2, q2⟩ := h'.obj o _ ho hs1
      refine ⟨f2, hs2, Nat.le_trans l1 l2, fun he => ?_⟩
      obtain rfl : f1 = f := by omega
      obtain ⟨a1, b1⟩ := q1 rfl
      obtain ⟨a2, b2⟩ := q2 he
      exact ⟨a2.trans a1, fun b hb => (b2 b (a1.trans hb)).trans (b1 b hb)⟩
    | row e sz xs =>
      rcases k1 with hg | ⟨e1, s1, xs1, l1, hs1 | hs1⟩
      · exact .inl (h'.obj o _ ho hg)
      · rcases h'.obj o _ ho hs1 with hg | ⟨e2, s2, xs2, l2, hs2⟩
        · exact .inl hg
        · exact .inr ⟨e2.trans e1, fun b hb => (s1 b hb).trans (s2 b (e1.trans hb)), xs2, Nat.le_trans l1 l2, hs2⟩
      · rcases h'.obj o _ ho hs1 with hg | ⟨e2, s2, hs2⟩
        · exact .inl hg
        · exact .inr ⟨e2.trans e1, fun b hb => (s1 b hb).trans (s2 b (e1.trans hb)), xs1, l1, .inr hs2⟩
    | fro e sz xs =>
      rcases k1 with hg | ⟨e1, s1, hs1⟩
      · exact .inl (h'.obj o _ ho hg)
      · rcases h'.obj o _ ho hs1 with hg | ⟨e2, s2, hs2⟩
        · exact .inl hg
        · exact .inr ⟨e2.trans e1, fun b hb => (s1 b hb).trans (s2 b (e1.trans hb)), hs2⟩
    | map kvs =>
      obtain ⟨e1, cs1, hs1⟩ := k1
      obtain ⟨e2, cs2, hs2⟩ := h'.obj o _ ho hs1
      exact ⟨e2.trans e1, cs2, hs2⟩
    | gone => exact h'.obj o _ ho k1
    | dead =>
      intro h2
      have hlt : o < S1.length := Nat.lt_of_lt_of_le ho h.len'
      have e1 : S1[o]? = some S1[o] := by simp [hlt]
      have k2 := h'.obj o _ ho e1
      cases hS1 : S1[o] with
      | box cs => rw [hS1] at k2; obtain ⟨_, cs', g⟩ := k2; rw [h2] at g; cases g
      | tok e f sz => rw [hS1] at k2; obtain ⟨f', g, _⟩ := k2; rw [h2] at g; cases g
      | row e sz xs => rw [hS1] at k2; rcases k2 with g | ⟨_, _, _, _, g | g⟩ <;> (rw [h2] at g; cases g)
      | fro e sz xs => rw [hS1] at k2; rcases k2 with g | ⟨_, _, g⟩ <;> (rw [h2] at g; cases g)
      | map kvs => rw [hS1] at k2; obtain ⟨_, _, g⟩ := k2; rw [h2] at g; cases g
      | gone => rw [hS1] at k2; have g : S2[o]? = some .gone := k2; rw [h2] at g; cases g
      | dead => rw [hS1] at k2 e1; exact (k2 h2).trans (k1 e1)
  rest := fun b hb hn => by
    have h1 := h.rest b hb hn
    refine (h'.rest b (Nat.lt_of_lt_of_le hb h.size) fun hbl => ?_).trans h1
    rcases h.own b hbl with h2 | h2
    · exact hn h2
    · omega
  own := fun b hb => by
    rcases h'.own b hb with h1 | h1
    · exact h.own b h1
    · exact .inr (Nat.le_trans h.size h1)
  newfz := fun b o hb => by
    rcases h'.newfz b o hb with h1 | h1 | h1
    · exact h.newfz b o h1
    · exact .inr (.inl (Nat.le_trans h.size h1))
    · rcases h.own b h1 with h2 | h2
      · exact .inr (.inr h2)
      · exact .inr (.inl h2)
  os := h'.os.trans h.os
  output := h'.output.trans h.output
  tape := h'.tape.trans h.tape
  gl := h'.gl.trans h.gl

theorem Inv.gl_ext {n : Nat} {γ γ' : Gh} {S S' : St} {w w' : World} (hI : Inv γ S w) (he : Ext n γ S w γ' S' w') : GlobReq.req γ'.gl ∧ ∀ p ∈ γ'.gl, γ'.fz p.1 p.2.1 ∧ w'.cell? ⟨p.1, p.2.1, none⟩ = some p.2.2 := by
  rw [he.gl]
  exact ⟨hI.gl.1, fun p hp => ⟨he.fz _ _ (hI.gl.2 p hp).1, (he.cell _ _ (hI.gl.2 p hp).1).trans (hI.gl.2 p hp).2⟩⟩

theorem Ext.less {n m : Nat} {γ γ1 : Gh} {S S1 : St} {w w1 : World} (h : Ext n γ S w γ1 S1 w1) (hm : m ≤ n) : Ext m γ S w γ1 S1 w1 :=
  { h with len := Nat.le_trans hm h.len, len' := Nat.le_trans hm h.len', obj := fun o ob ho => h.obj o ob (Nat.lt_of_lt_of_le ho hm) }

theorem SlOk.mono {γ γ' : Gh} {w w' : World} {o e sz len len' lo n : Nat} {v : Value} (h : SlOk γ w o e sz len lo n v) (hl : len ≤ len') (hmu : γ'.mu o = γ.mu o) (hb : ∀ b, γ.mu o = some b → SameBlock w w' e b) : SlOk γ' w' o e sz len' lo n v := by
  obtain ⟨h1, h2⟩ := h
  refine ⟨Nat.le_trans h1 hl, h2.imp id ?_⟩
  rintro ⟨b, cap, cur, g1, g2, g3, g4, g5, g6⟩
  obtain ⟨cur', q1, q2⟩ := hb b g1 cur g5
  exact ⟨b, cap, cur', hmu.trans g1, g2, g3, g4, q1, g6.trans q2.symm⟩

/-- a row behind a step: gone, or a row of as many -/
theorem Keep.isRow {γ γ' : Gh} {w w' : World} {o : Nat} {ob : AObj} {r : Option AObj} (h : Keep γ w γ' w' o ob r) (hb : ob.isRow) :
    r = some .gone ∨ ∃ ob' e sz xs xs', r = some ob' ∧ ob.rowOf = some (e, sz, xs) ∧ ob'.rowOf = some (e, sz, xs') ∧ xs.length ≤ xs'.length ∧ γ'.mu o = γ.mu o ∧ ∀ b, γ.mu o = some b → SameBlock w w' e b := by
  rcases hb with rfl | ⟨⟨e, sz, xs⟩, hr⟩
  · exact .inl h
  · cases ob with
    | row e' sz' xs' =>
      cases hr
      rcases h with h | ⟨h1, h2, xs1, h3, h4 | h4⟩
      · exact .inl h
      · exact .inr ⟨_, _, _, _, _, h4, rfl, rfl, h3, h1, h2⟩
      · exact .inr ⟨_, _, _, _, _, h4, rfl, rfl, h3, h1, h2⟩
    | fro e' sz' xs' =>
      cases hr
      rcases h with h | ⟨h1, h2, h3⟩
      · exact .inl h
      · exact .inr ⟨_, _, _, _, _, h3, rfl, rfl, Nat.le_refl _, h1, h2⟩
    | _ => cases hr

theorem RV.mono {γ γ' : Gh} {S S' : St} {w w' : World} {x : V} {v : Value} (h : RV γ S w x v) (he : Ext S.length γ S w γ' S' w') : RV γ' S' w' x v := by
  induction h with
  | any v => exact .any v
  | und => exact .und
  | csl0 o lo a => exact .csl0 o lo a
  | csl o lo n cap a h ih => exact .csl o lo n cap a ih
  | d x v h => exact .d x v (h.mono he.fz he.cell)
  | nil => exact .nil
  | emp a c hc => exact .emp a c hc
  | own t e sz f xs v ht hf hd hk hz =>
    have hlt : t < S.length := (List.getElem?_eq_some_iff.1 ht).1
    obtain ⟨f', hs', l', q'⟩ := he.obj t _ hlt ht
    refine .own t e sz f' xs v hs' (Nat.le_trans hf l') (hd.mono he.fz he.cell) (fun hx => ?_) hz
    obtain rfl : f' = f := by omega
    obtain ⟨a1, b1⟩ := q' rfl
    rcases hk hx with h1 | h1 | ⟨b, cap, cur, h1, h2, h3, h4⟩
    · exact .inl h1
    · exact .inr (.inl h1)
    · exact .inr (.inr ⟨b, cap, cur, a1.trans h1, h2, (b1 b h1).trans h3, h4⟩)
  | fsl xs a hd => exact .fsl xs a (hd.mono he.fz he.cell)
  | sl o lo n ob v h1 ho hb h =>
    have hlt : o < S.length := (List.getElem?_eq_some_iff.1 ho).1
    rcases (he.obj o _ hlt ho).isRow hb with hg | ⟨ob', e, sz, xs, xs', g1, g2, g3, g4, g5, g6⟩
    · exact .sl o lo n .gone v h1 hg (.inl rfl) (fun _ _ _ h => by cases h)
    · refine .sl o lo n ob' v h1 g1 (.inr ⟨_, g3⟩) fun e1 sz1 xs1 hr => ?_
      rw [g3] at hr
      cases hr
      exact (h _ _ _ g2).mono g4 g5 g6
  | ptr o off b cs ho hb =>
    have hlt : o < S.length := (List.getElem?_eq_some_iff.1 ho).1
    obtain ⟨e1, cs', hs'⟩ := he.obj o _ hlt ho
    exact .ptr o off b cs' hs' (e1.trans hb)
  | eptr o i off ob a ho hb h =>
    have hlt : o < S.length := (List.getElem?_eq_some_iff.1 ho).1
    rcases (he.obj o _ hlt ho).isRow hb with hg | ⟨ob', e, sz, xs, xs', g1, g2, g3, g4, g5, g6⟩
    · exact .eptr o i off .gone a hg (.inl rfl) (fun _ _ _ h => by cases h)
    · refine .eptr o i off ob' a g1 (.inr ⟨_, g3⟩) fun e1 sz1 xs1 hr => ?_
      rw [g3] at hr
      cases hr
      obtain ⟨b, h1, h2⟩ := h _ _ _ g2
      exact ⟨b, g5.trans h1, h2⟩
  | cptr off b o x vs hc hr =>
    exact .cptr off b o x vs (fun j hj => ⟨he.fz _ _ (hc j hj).1, (he.cell _ _ (hc j hj).1).trans (hc j hj).2⟩) (fun j y hy => ⟨(hr j y hy).1, (hr j y hy).2.mono he.fz he.cell⟩)
  | mp o r kvs ho hb =>
    have hlt : o < S.length := (List.getElem?_eq_some_iff.1 ho).1
    obtain ⟨e1, cs', hs'⟩ := he.obj o _ hlt ho
    exact .mp o r cs' hs' (e1.trans hb)
  | fn f first cap vf vc h1 h2 hf hc ih1 ih2 => exact .fn f first cap vf vc h1 h2 ih1 ih2
  | agg cs vs hl h1 hr ih => exact .agg cs vs hl h1 ih
  | tup cs vs hl hr ih => exact .tup cs vs hl ih

end Go.Wm
