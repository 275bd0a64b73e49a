/-
  A part of the proof: an abstract run of the program, shown to be what the model does, and what it comes to.
-/
import Derived.Test.YtmfjfejjegemaaaGreatDoorWmZ
import Derived.WalkKit
import Derived.ProofKit
import Derived.OpenShut
import Derived.JoinedCond
set_option linter.unusedVariables false
set_option linter.unusedSimpArgs false
set_option linter.unnecessarySimpa false
set_option linter.defProp false
set_option linter.unusedSectionVars false
namespace Go.Wm
open Go Go.ChangeShapes Go.WideShapes Go.ChangeAt Go.RowKit

/-! ## what an argument reads as -/
def elemD (i : TI) (cs : List D) : D :=
  if i.desc.isAgg then .agg cs else match cs with
    | [x] => x
    | _ => .agg cs
def elemT (ty : Nat → Option TI) (t : Nat) (cs : List D) : D := match ty t with
  | some i => elemD i cs
  | none => .agg cs
def shapeF (R : Nat → List D → Prop) : List (Nat × Nat × Nat) → List D → Prop
  | [], cs => cs = []
  | (_, u, n) :: r, cs => ∃ xs ys, cs = xs ++ ys ∧ xs.length = n ∧ R u xs ∧ shapeF R r ys
def shape (ty : Nat → Option TI) : Nat → Nat → List D → Prop
  | 0, _, _ => False
  | k + 1, t, cs => match (ty t).map TI.desc with
    | some .bool => ∃ b, cs = [.bool b]
    | some (.int kk) => ∃ n, cs = [.int kk n] ∧ (Lit.int kk n).wf = true
    | some .str => ∃ s, cs = [.str s] ∧ s.length ≤ maxLen
    | some (.sl e s _) => ∃ xs, cs = [.sl xs] ∧ xs.length ≤ maxLen ∧ ∀ x ∈ xs, ∃ cs, shape ty k e cs ∧ x = elemT ty e cs
    | some (.st fs) => shapeF (shape ty k) fs cs
    | _ => False
def deepF (ok : Nat → Nat → Bool) : Nat → List (Nat × Nat × Nat) → Option Nat
  | off, [] => some off
  | off, (o, u, n) :: r => if o == off && ok u n then deepF ok (off + n) r else none
def sizeB (ty : Nat → Option TI) (u n : Nat) : Bool := match ty u with | some j => j.size == n | none => false
def deep (ty : Nat → Option TI) : Nat → Nat → Bool
  | 0, _ => false
  | k + 1, t => match ty t with
    | none => false
    | some i => match i.desc with
      | .bool | .int _ | .str => i.size == 1
      | .sl e s _ => i.size == 1 && decide (0 < s) && deep ty k e && sizeB ty e s
      | .st fs => (match deepF (fun u n => deep ty k u && sizeB ty u n) 0 fs with | some n => n == i.size | none => false)
      | _ => false

mutual
def D.bulk : D → Nat
  | .bool _ => 1
  | .int _ _ => 1
  | .str s => s.length + 1
  | .sl xs => D.bulkL xs + 1
  | .agg cs => D.bulkL cs + 1
  | .nilp => 1
  | .nilf => 1
  | .nili => 1
  | .nilm => 1
  | .err => 1
  | .fn _ => 1
def D.bulkL : List D → Nat
  | [] => 0
  | x :: r => D.bulk x + D.bulkL r
end
theorem D.bulkL_append : ∀ (l m : List D), D.bulkL (l ++ m) = D.bulkL l + D.bulkL m
  | [], m => by simp [D.bulkL]
  | x :: r, m => by simp [D.bulkL, D.bulkL_append r m, Nat.add_assoc]
theorem D.bulk_pos (x : D) : 1 ≤ x.bulk := by cases x <;> simp [D.bulk]
theorem D.bulkL_length : ∀ (l : List D), l.length ≤ D.bulkL l
  | [] => by simp
  | x :: r => by have := D.bulk_pos x; have := D.bulkL_length r; simp only [List.length_cons, D.bulkL]; omega
theorem D.bulkL_mem : ∀ {l : List D} {x : D}, x ∈ l → x.bulk ≤ D.bulkL l
  | y :: r, x, h => by
    rcases List.mem_cons.1 h with rfl | h
    · simp only [D.bulkL]; omega
    · have := D.bulkL_mem h; simp only [D.bulkL]; omega

/-- a way to count what a reading holds -/
structure Bulk (H : Type) where
  one : DataW H → Nat
  all : List (DataW H) → Nat
  pos : ∀ d, 1 ≤ one d
  str : ∀ b, b.length + 1 ≤ one (.lit (.string b))
  slice : ∀ es sp, all es + 1 ≤ one (.slice es sp)
  agg : ∀ ps, all ps + 1 ≤ one (.agg ps)
  nil : all [] = 0
  cons : ∀ d r, all (d :: r) = one d + all r

section
variable {P : Program} {ty : Nat → Option TI} (hty : TyOk P ty) {H : Type} {enc : TypeId × Value → H} {w : World} (B : Bulk H)
/-- the cells that stand at the start -/
def oldCells (w : World) (b o : Nat) : Prop := ∃ v, w.cell? ⟨b, o, none⟩ = some v

theorem bulk_elemD (i : TI) (cs : List D) : D.bulkL cs ≤ (elemD i cs).bulk := by
  unfold elemD
  split
  · simp [D.bulk]
  · split
    · simp [D.bulkL]
    · simp [D.bulk]
theorem cells_elemD {i : TI} {cs : List D} (h1 : cs.length = i.size) (ha : i.desc.isAgg = false → i.size = 1) (hone : ∀ y ∈ cs, y.one = true) : (elemD i cs).cells = cs := by
  unfold elemD
  split
  · rfl
  · rename_i hn
    have := ha (by simpa using hn)
    match cs, h1 with
    | [x], _ =>
      have := hone x (by simp)
      cases x <;> simp_all [D.cells, D.one]
    | [], h1 => simp at h1; omega
    | x :: y :: r, h1 => simp at h1; omega

include hty
theorem cellsOf_eq {t : Nat} {i : TI} (h : ty t = some i) : P.cellsOf t = i.size := by
  obtain ⟨info, z, h1, h2, _⟩ := hty.info h
  simp [Program.cellsOf, h1, h2]

omit hty in
theorem deep_size {k t : Nat} (h : deep ty k t = true) : ∃ i, ty t = some i ∧ (i.desc.isAgg = false → i.size = 1) := by
  cases k with
  | zero => simp [deep] at h
  | succ k =>
    simp only [deep] at h
    cases ht : ty t with
    | none => simp [ht] at h
    | some i =>
      refine ⟨i, rfl, fun ha => ?_⟩
      simp only [ht] at h
      cases hd : i.desc <;> simp only [hd] at h <;> first | (simp at h; done) | (simpa using h) | (simp only [Bool.and_eq_true, beq_iff_eq] at h; exact h.1.1.1) | (simp [hd, TD.isAgg] at ha) | (cases h)

/-- the cells of a reading, as data -/
def CellsRead (w : World) (cs : List Value) (xs : List D) : Prop :=
  xs.length = cs.length ∧ ∀ (j : Nat) (y : D) (v : Value), xs[j]? = some y → cs[j]? = some v → y.one = true ∧ RD (oldCells w) w y v

omit hty in
theorem CellsRead.append {cs cs' : List Value} {xs xs' : List D} (h : CellsRead w cs xs) (h' : CellsRead w cs' xs') : CellsRead w (cs ++ cs') (xs ++ xs') := by
  refine ⟨by simp [h.1, h'.1], fun j y v hy hv => ?_⟩
  by_cases hj : j < xs.length
  · rw [List.getElem?_append_left hj] at hy
    rw [List.getElem?_append_left (by rw [← h.1]; exact hj)] at hv
    exact h.2 j y v hy hv
  · rw [List.getElem?_append_right (by omega)] at hy
    rw [List.getElem?_append_right (by rw [← h.1]; omega), ← h.1] at hv
    exact h'.2 _ y v hy hv

theorem trod_shape : ∀ (k t : Nat), deep ty k t = true → ∀ (fuel : Nat) (cs : List Value) (x : DataW H × List MemPlace), DataW.trod enc P w 0 (fun _ => true) true fuel t cs = some x →
    ∃ xs, shape ty k t xs ∧ CellsRead w cs xs ∧ (elemT ty t xs).bulk ≤ B.one x.1 := by
  intro k
  induction k with
  | zero => intro t h; simp [deep] at h
  | succ k ih =>
    intro t hd fuel cs x hx
    simp only [deep] at hd
    cases ht : ty t with
    | none => simp [ht] at hd
    | some i =>
      simp only [ht] at hd
      have hdesc := hty.desc ht
      have hel : ∀ xs, elemT ty t xs = elemD i xs := fun xs => by simp [elemT, ht]
      cases hi : i.desc with
      | bool =>
        have hu : P.underlying t = some .bool := by
          rw [hi] at hdesc; simp only [descOk] at hdesc; split at hdesc <;> first | assumption | cases hdesc
        obtain ⟨b, rfl, rfl⟩ := DataW.trod_bool hu hx
        refine ⟨[.bool b], by simp [shape, ht, hi], ⟨rfl, fun j y v hy hv => ?_⟩, ?_⟩
        · cases j with
          | zero => simp at hy hv; subst hy hv; exact ⟨rfl, .bool b⟩
          | succ j => simp at hy
        · rw [hel]; simp only [elemD, hi, TD.isAgg, Bool.false_eq_true, if_false, D.bulk]; exact B.pos _
      | int kk =>
        have hu := hty.int ht hi
        obtain ⟨n, rfl, rfl, hw⟩ := DataW.trod_int hu hx
        refine ⟨[.int kk n], by simp [shape, ht, hi, hw], ⟨rfl, fun j y v hy hv => ?_⟩, ?_⟩
        · cases j with
          | zero => simp at hy hv; subst hy hv; exact ⟨rfl, .int kk n⟩
          | succ j => simp at hy
        · rw [hel]; simp only [elemD, hi, TD.isAgg, Bool.false_eq_true, if_false, D.bulk]; exact B.pos _
      | str =>
        have hu : P.underlying t = some .string := by
          rw [hi] at hdesc; simp only [descOk] at hdesc; split at hdesc <;> first | assumption | cases hdesc
        obtain ⟨s, rfl, rfl, hw⟩ := DataW.trod_string hu hx
        have hsl : s.data.toList.length = s.size := by rw [Array.length_toList]; rfl
        refine ⟨[.str s.data.toList], (by simp only [shape, ht, Option.map_some, hi]; exact ⟨s.data.toList, rfl, by rw [hsl]; exact hw⟩), ⟨rfl, fun j y v hy hv => ?_⟩, ?_⟩
        · cases j with
          | zero => simp at hy hv; subst hy hv; exact ⟨rfl, .str _ s rfl⟩
          | succ j => simp at hy
        · rw [hel]; simp only [elemD, hi, TD.isAgg, Bool.false_eq_true, if_false, D.bulk]
          exact B.str s.data.toList
      | sl e s by_ =>
        simp only [hi, Bool.and_eq_true, beq_iff_eq, decide_eq_true_eq] at hd
        obtain ⟨⟨⟨h1, hs⟩, hde⟩, hsz⟩ := hd
        obtain ⟨hu, _⟩ := hty.slice ht hi
        obtain ⟨j, hj, hagg⟩ := deep_size hde
        simp only [sizeB, hj, beq_iff_eq] at hsz
        have hce : P.cellsOf e = s := (cellsOf_eq hty hj).trans hsz
        have hele : ∀ xs, elemT ty e xs = elemD j xs := fun xs => by simp [elemT, hj]
        rcases DataW.trod_slice hu hx with ⟨rfl, rfl⟩ | ⟨a, len, cap, elems, rest, n, rfl, rfl, rfl, _, hl, hm, hlen, hel1, hsp, _⟩
        · refine ⟨[.sl []], (by simp only [shape, ht, Option.map_some, hi]; exact ⟨[], rfl, Nat.zero_le _, fun x h => by cases h⟩), ⟨rfl, fun j y v hy hv => ?_⟩, ?_⟩
          · cases j with
            | zero => simp at hy hv; subst hy hv; exact ⟨rfl, .nils⟩
            | succ j => simp at hy
          · rw [hel]; simp only [elemD, hi, TD.isAgg, Bool.false_eq_true, if_false, D.bulk, D.bulkL]; exact B.pos _
        · rw [hce] at hel1
          -- element by element
          have hone : ∀ m, m < len → ∃ (cs' : List Value) (ys : List D) (d : DataW H × List MemPlace), w.cells? 0 (a.add (m * s)) s = some cs' ∧ elems[m]? = some d ∧ shape ty k e ys ∧ CellsRead w cs' ys ∧ (elemT ty e ys).bulk ≤ B.one d.1 := fun m hm => by
            have h := hel1 m hm
            have hlt : m < elems.length := by omega
            have e1 : elems[m]? = some elems[m] := by simp [hlt]
            rw [e1, Option.bind_eq_some_iff] at h
            obtain ⟨cs', hc, h⟩ := h
            obtain ⟨ys, g1, g2, g3⟩ := ih e hde n cs' _ h
            exact ⟨cs', ys, _, hc, e1, g1, g2, g3⟩
          -- all of them
          have hall : ∀ m, m ≤ len → ∃ (L : List (List Value × List D)), L.length = m ∧ (∀ (i : Nat) (p : List Value × List D), L[i]? = some p → w.cells? 0 (a.add (i * s)) s = some p.1 ∧ shape ty k e p.2 ∧ CellsRead w p.1 p.2) ∧
              D.bulkL (L.map fun p => elemT ty e p.2) ≤ B.all ((elems.take m).map (·.1)) := by
            intro m
            induction m with
            | zero => exact fun _ => ⟨[], rfl, fun i p h => by simp at h, by simp [D.bulkL]⟩
            | succ m ihm =>
              intro hm
              obtain ⟨L, l1, l2, l3⟩ := ihm (by omega)
              obtain ⟨cs', ys, d, g1, g2, g3, g4, g5⟩ := hone m (by omega)
              refine ⟨L ++ [(cs', ys)], by simp [l1], fun i p hp => ?_, ?_⟩
              · by_cases hi : i < L.length
                · rw [List.getElem?_append_left hi] at hp; exact l2 i p hp
                · rw [List.getElem?_append_right (by omega)] at hp
                  have : i - L.length = 0 := by
                    have := (List.getElem?_eq_some_iff.1 hp).1
                    simp at this; omega
                  rw [this] at hp
                  simp at hp
                  subst hp
                  have : i = m := by omega
                  subst this
                  exact ⟨g1, g3, g4⟩
              · have htk : elems.take (m + 1) = elems.take m ++ [d] := by rw [List.take_add_one, g2]; rfl
                rw [htk, List.map_append, List.map_append, D.bulkL_append]
                have happ : ∀ l l' : List (DataW H), B.all (l ++ l') = B.all l + B.all l' := fun l l' => by
                  induction l with
                  | nil => simp [B.nil]
                  | cons x r ih => simp [B.cons, ih, Nat.add_assoc]
                rw [happ]
                simp only [List.map_cons, List.map_nil, D.bulkL, B.cons, B.nil]
                omega
          obtain ⟨L, l1, l2, l3⟩ := hall len (Nat.le_refl _)
          have hLc : ∀ (i : Nat) (p : List Value × List D), L[i]? = some p → p.2.length = s ∧ p.1.length = s ∧ (∀ y ∈ p.2, y.one = true) ∧ (elemT ty e p.2).cells = p.2 := fun i p hp => by
            obtain ⟨g1, g2, g3⟩ := l2 i p hp
            have hc := (World.cells?_some g1)
            have h1 : p.1.length = s := by simpa using hc.2.1
            have h2 : p.2.length = s := g3.1.trans h1
            have h3 : ∀ y ∈ p.2, y.one = true := fun y hy => by
              obtain ⟨q, hq⟩ := List.getElem?_of_mem hy
              have hlt := (List.getElem?_eq_some_iff.1 hq).1
              exact (g3.2 q y (p.1[q]'(by omega)) hq (by simp)).1
            exact ⟨h2, h1, h3, by rw [hele]; exact cells_elemD (h2.trans hsz.symm) hagg h3⟩
          have hxsl : (L.map fun p => elemT ty e p.2).length = len := by simp [l1]
          have hspot : (L.map fun p => elemT ty e p.2) = [] ∨ a.spot = none := by
            cases hL : L with
            | nil => exact .inl rfl
            | cons p r =>
              right
              obtain ⟨g1, _, _⟩ := l2 0 p (by simp [hL])
              have hc := World.cells?_some g1
              have := hc.2.2 0 hs
              have hp0 : p.1[0]? = some (p.1[0]'(by rw [hc.2.1]; exact hs)) := by simp
              rw [hp0] at this
              have := World.cell?_spot this
              simpa [Addr.add] using this
          refine ⟨[.sl (L.map fun p => elemT ty e p.2)], ?_, ⟨rfl, fun j' y v hy hv => ?_⟩, ?_⟩
          · simp only [shape, ht, Option.map_some, hi]
            refine ⟨_, rfl, (by rw [hxsl]; omega), fun x hx => ?_⟩
            obtain ⟨p, hp, rfl⟩ := List.mem_map.1 hx
            obtain ⟨q, hq⟩ := List.getElem?_of_mem hp
            exact ⟨p.2, (l2 q p hq).2.1, rfl⟩
          · cases j' with
            | succ j' => simp at hy
            | zero =>
              simp at hy hv
              subst hy hv
              refine ⟨rfl, ?_⟩
              have key : ∀ (i j : Nat), i < len → j < s → ∃ (p : List Value × List D) (v : Value), L[i]? = some p ∧ p.1[j]? = some v ∧ a.spot = none ∧ w.cell? ⟨a.block, a.off + i * s + j, none⟩ = some v := fun i j hi' hj' => by
                have hp : L[i]? = some (L[i]'(by omega)) := by simp
                obtain ⟨g1, _, _⟩ := l2 i _ hp
                have hc := World.cells?_some g1
                have h2 := hc.2.2 j hj'
                have hv : (L[i]'(by omega)).1[j]? = some ((L[i]'(by omega)).1[j]'(by rw [hc.2.1]; exact hj')) := by simp
                rw [hv] at h2
                have hsp' : a.spot = none := hspot.resolve_left fun h => by
                  have := congrArg List.length h
                  simp [l1] at this
                  omega
                refine ⟨_, _, hp, hv, hsp', ?_⟩
                rw [← h2]
                obtain ⟨ab, ao, as⟩ := a
                simp only at hsp'
                subst hsp'
                rw [Go.WideShapes.add_plain, Go.WideShapes.add_plain]
              have hrd := RD.sl (fz := oldCells w) (w := w) s (L.map fun p => elemT ty e p.2) a cap (fun i j => (w.cell? ⟨a.block, a.off + i * s + j, none⟩).getD undef) hspot (by rw [hxsl]; omega) (by omega)
                (fun x hx => by
                  obtain ⟨p, hp, rfl⟩ := List.mem_map.1 hx
                  obtain ⟨q, hq⟩ := List.getElem?_of_mem hp
                  obtain ⟨c1, c2, c3, c4⟩ := hLc q p hq
                  rw [c4]
                  exact ⟨c1, c3⟩)
                (fun i j hi' hj' => by
                  rw [hxsl] at hi'
                  obtain ⟨p, v, _, _, _, h4⟩ := key i j hi' hj'
                  exact ⟨⟨v, h4⟩, by rw [h4]; rfl⟩)
                (fun i j x y hx hy => by
                  rw [List.getElem?_map, Option.map_eq_some_iff] at hx
                  obtain ⟨p, hp, rfl⟩ := hx
                  obtain ⟨c1, c2, c3, c4⟩ := hLc i p hp
                  rw [c4] at hy
                  have hi' : i < len := by have := (List.getElem?_eq_some_iff.1 hp).1; omega
                  have hj' : j < s := by have := (List.getElem?_eq_some_iff.1 hy).1; omega
                  obtain ⟨p', v, h1, h2, _, h4⟩ := key i j hi' hj'
                  rw [hp] at h1
                  cases h1
                  rw [h4]
                  exact ((l2 i p hp).2.2.2 j y v hy h2).2)
              rw [hxsl] at hrd
              exact hrd
          · rw [hel]
            simp only [elemD, hi, TD.isAgg, Bool.false_eq_true, if_false, D.bulk]
            have h1 := B.slice (elems.map (·.1)) (rest.map (·.1))
            have : elems.take len = elems := by rw [← hlen]; simp
            rw [this] at l3
            omega
      | st fs =>
        simp only [hi] at hd
        obtain ⟨fields, hu, hfs⟩ := hty.struct ht hi
        obtain ⟨xs, n, rfl, rfl, hcl, hxl, hget⟩ := DataW.trod_struct hu hx
        have hsize : P.cellsOf t = i.size := cellsOf_eq hty ht
        rw [hsize] at hcl
        cases hdf : deepF (fun u n => deep ty k u && sizeB ty u n) 0 fs with
        | none => simp [hdf] at hd
        | some tot =>
          simp only [hdf, beq_iff_eq] at hd
          have hfl : fields.size = fs.length := by have := congrArg List.length hfs; simpa using this
          have hfg : ∀ (m : Nat) (r : Nat × Nat × Nat), fs[m]? = some r → ∃ f, fields[m]? = some f ∧ f.offset = r.1 ∧ f.type = r.2.1 ∧ P.cellsOf f.type = r.2.2 := fun m r hr => by
            have h1 : (fs.map (fun r => (r.1, r.2.1, some r.2.2)))[m]? = some (r.1, r.2.1, some r.2.2) := by simp [hr]
            rw [← hfs, List.getElem?_map, Option.map_eq_some_iff] at h1
            obtain ⟨f, h2, h3⟩ := h1
            simp only [Prod.mk.injEq, Option.map_eq_some_iff] at h3
            obtain ⟨a1, a2, info, a3, a4⟩ := h3
            exact ⟨f, by simpa using h2, a1, a2, by simp [Program.cellsOf, a3, a4]⟩
          -- the fields from the m-th on
          have go : ∀ (r : List (Nat × Nat × Nat)) (m off : Nat), (∀ q, r[q]? = fs[m + q]?) → deepF (fun u n => deep ty k u && sizeB ty u n) off r = some tot → off ≤ tot →
              ∃ ys, shapeF (shape ty k) r ys ∧ CellsRead w (cs.drop off) ys ∧ D.bulkL ys ≤ B.all ((xs.drop m).map (·.1)) := by
            intro r
            induction r with
            | nil =>
              intro m off _ h _
              simp only [deepF, Option.some.injEq] at h
              refine ⟨[], rfl, ⟨?_, fun j y v hy => by simp at hy⟩, by simp [D.bulkL]⟩
              simp; omega
            | cons p r ihr =>
              obtain ⟨o, u, n'⟩ := p
              intro m off hr h hoff
              simp only [deepF] at h
              split at h <;> first | (cases h; done) | skip
              rename_i hok
              simp only [Bool.and_eq_true, beq_iff_eq] at hok
              obtain ⟨rfl, hok1, hok2⟩ := hok
              have hm := hr 0
              simp only [List.getElem?_cons_zero, Nat.add_zero] at hm
              obtain ⟨f, f1, f2, f3, f4⟩ := hfg m _ hm.symm
              simp only at f2 f3 f4
              have hmlt : m < xs.length := by have := (Array.getElem?_eq_some_iff.1 f1).1; omega
              have hxm : xs[m]? = some xs[m] := by simp [hmlt]
              have hg := hget m f f1
              rw [hxm, f2, f3] at hg
              rw [f3] at f4
              rw [f4] at hg
              obtain ⟨zs, z1, z2, z3⟩ := ih u hok1 n _ _ hg
              have htot : o + n' ≤ tot := by
                have mono : ∀ (l : List (Nat × Nat × Nat)) (a b : Nat), deepF (fun u n => deep ty k u && sizeB ty u n) a l = some b → a ≤ b := by
                  intro l
                  induction l with
                  | nil => intro a b h; simp [deepF] at h; omega
                  | cons q l ihl =>
                    intro a b h
                    simp only [deepF] at h
                    split at h
                    · have := ihl _ _ h; omega
                    · cases h
                exact mono r _ _ h
              obtain ⟨ys, y1, y2, y3⟩ := ihr (m + 1) (o + n') (fun q => by have := hr (q + 1); simpa [Nat.add_assoc, Nat.add_comm 1 q] using this) h htot
              have hlen : ((cs.drop o).take n').length = n' := by simp; omega
              refine ⟨zs ++ ys, ⟨zs, ys, rfl, z2.1.trans hlen, z1, y1⟩, ?_, ?_⟩
              · have : cs.drop o = (cs.drop o).take n' ++ cs.drop (o + n') := by
                  rw [← List.drop_drop, List.take_append_drop]
                rw [this]
                exact z2.append y2
              · have hdm : xs.drop m = xs[m] :: xs.drop (m + 1) := List.drop_eq_getElem_cons hmlt
                rw [hdm, List.map_cons, B.cons, D.bulkL_append]
                obtain ⟨ju, hju, _⟩ := deep_size hok1
                have : D.bulkL zs ≤ (elemT ty u zs).bulk := by simp only [elemT, hju]; exact bulk_elemD _ _
                omega
          obtain ⟨ys, y1, y2, y3⟩ := go fs 0 0 (fun q => by simp) hdf (Nat.zero_le _)
          refine ⟨ys, by simp only [shape, ht, Option.map_some, hi]; exact y1, by simpa using y2, ?_⟩
          rw [hel]
          simp only [elemD, hi, TD.isAgg, if_true, D.bulk]
          have := B.agg (xs.map (·.1))
          simp only [List.drop_zero] at y3
          omega
      | _ => simp [hi] at hd
end
end Go.Wm
