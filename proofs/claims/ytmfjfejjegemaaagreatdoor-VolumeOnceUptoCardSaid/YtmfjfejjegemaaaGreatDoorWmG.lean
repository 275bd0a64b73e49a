/-
  A part of the proof: an abstract run of the program, shown to be what the model does, and what it comes to.
-/
import Derived.Test.YtmfjfejjegemaaaGreatDoorWmF
set_option linter.unusedVariables false
set_option linter.unusedSimpArgs false
set_option linter.unnecessarySimpa false
set_option linter.defProp false
set_option linter.unusedSectionVars false
namespace Go.Wm
open Go

section
variable {P : Program} {ty : Nat → Option TI} (hty : TyOk P ty) {γ : Gh} {S : St} {w : World}

theorem intOp_ok {op : BinOp} {k : IntKind} {a b : Int} {r : D} (h : intOp op k a b = some r) (t : TypeId) :
    ∃ u, (Go.binOp op t (.int k a) (.int k b)).run P w = .ok u w ∧ RD γ.fz w r u := by
  unfold intOp intCmp at h
  cases op <;> simp only at h <;> first
    | (cases h; done)
    | (cases h; exact ⟨_, by simp [Go.binOp, Op.intArith, Op.intCmp]; rfl, by constructor⟩)
    | (split at h <;> cases h; rename_i hb; exact ⟨_, by simp [Go.binOp, Op.intDiv, hb]; rfl, by constructor⟩)

theorem shiftOp_ok {op : BinOp} {k k' : IntKind} {a b : Int} {r : D} (h : shiftOp op k a b = some r) (t : TypeId) :
    ∃ u, (Go.binOp op t (.int k a) (.int k' b)).run P w = .ok u w ∧ RD γ.fz w r u := by
  unfold shiftOp at h
  cases op <;> simp only at h <;> first | (cases h; done) | skip
  all_goals
    split at h <;> first | (cases h; done) | skip
    rename_i hb
    cases h
    exact ⟨_, by simp only [Go.binOp, Op.shift, hb, if_false]; rfl, .int _ _⟩

theorem strOp_ok {op : BinOp} {a b : List UInt8} {r : D} {u v : Value} (h : strOp op a b = some r) (t : TypeId) (hu : RD γ.fz w (.str a) u) (hv : RD γ.fz w (.str b) v) (xo yo : Operand) :
    ∃ z, ((eqGuard op t xo yo u v).bind fun _ => Go.binOp op t u v).run P w = .ok z w ∧ RD γ.fz w r z := by
  cases hu with
  | str _ s hs =>
    cases hv with
    | str _ s' hs' =>
      subst hs hs'
      rw [eqGuard_at_string]
      have key : ∃ z, (Go.binOp op t (.string s) (.string s')).run P w = .ok z w ∧ RD γ.fz w r z := by
        unfold strOp at h
        have e1 : s.toList = s.data.toList := ByteArray.toList_eq s
        have e2 : s'.toList = s'.data.toList := ByteArray.toList_eq s'
        rw [← e1, ← e2] at h
        cases op <;> simp only at h <;> first
          | (cases h; done)
          | (cases h; exact ⟨_, rfl, by constructor⟩)
          | skip
        split at h <;> cases h
        rename_i hle
        rw [e1, e2] at hle
        have h1 : s.data.toList.length = s.size := by rw [Array.length_toList]; rfl
        have h2 : s'.data.toList.length = s'.size := by rw [Array.length_toList]; rfl
        have : ¬ (9223372036854775807 < ((s.size : Int) + (s'.size : Int))) := by omega
        exact ⟨.string (s ++ s'), by simp [Go.binOp, Op.stringOp, this], .str _ _ (by simp [ByteArray.data_append, e1, e2])⟩
      exact key

theorem eqOp_ok {op : BinOp} {b : Bool} {r : D} (h : eqOp op b = some r) {t : TypeId} {x y : Value}
    (hop : ∀ op, op = .eql ∨ op = .neq → Go.binOp op t x y = (match op with | .eql => (do pure (.bool (← Op.equal t x y))) | _ => (do pure (.bool (!(← Op.equal t x y))))))
    (he : (Op.equal t x y).run P w = .ok b w) :
    ∃ u, (Go.binOp op t x y).run P w = .ok u w ∧ RD γ.fz w r u := by
  unfold eqOp at h
  cases op <;> simp only at h <;> first | (cases h; done) | skip
  · cases h
    refine ⟨.bool b, ?_, .bool b⟩
    rw [hop .eql (.inl rfl)]
    simp [he]
  · cases h
    refine ⟨.bool (!b), ?_, .bool (!b)⟩
    rw [hop .neq (.inr rfl)]
    simp [he]

theorem equalIn_slice_nil (d : Nat) {t e : TypeId} (h : P.underlying t = some (.slice e)) (a : Option Addr) (n c : Nat) :
    (Op.equalIn (d + 1) t (.slice a n c) (.slice none 0 0)).run P w = .ok a.isNone w := by
  cases a <;> simp [Op.equalIn, run_underlying h]
theorem equalIn_ptr_nil (d : Nat) {t e : TypeId} (h : P.underlying t = some (.pointer e)) (a : Option Addr) :
    (Op.equalIn (d + 1) t (.pointer a) (.pointer none)).run P w = .ok a.isNone w := by
  cases a <;> simp [Op.equalIn, run_underlying h]
theorem equalIn_nilFunc (d : Nat) {t : TypeId} {a b : Array TypeId} {c : Bool} (h : P.underlying t = some (.func a b c)) :
    (Op.equalIn (d + 1) t .nilFunc .nilFunc).run P w = .ok true w := by
  simp [Op.equalIn, run_underlying h]
theorem equalIn_func_nil (d : Nat) {t : TypeId} {a b : Array TypeId} {c : Bool} (h : P.underlying t = some (.func a b c)) (f : Fn) (x y : Array Value) :
    (Op.equalIn (d + 1) t (.func f x y) .nilFunc).run P w = .ok false w := by
  simp [Op.equalIn, run_underlying h]
theorem equalIn_bool (d : Nat) {t : TypeId} (h : P.underlying t = some .bool) (a b : Bool) :
    (Op.equalIn (d + 1) t (.bool a) (.bool b)).run P w = .ok (a == b) w := by
  simp [Op.equalIn, run_underlying h]
theorem equal_slice_nil {t e : TypeId} (h : P.underlying t = some (.slice e)) (a : Option Addr) (n c : Nat) :
    (Op.equal t (.slice a n c) (.slice none 0 0)).run P w = .ok a.isNone w := equalIn_slice_nil 9999 h a n c
theorem equal_ptr_nil {t e : TypeId} (h : P.underlying t = some (.pointer e)) (a : Option Addr) :
    (Op.equal t (.pointer a) (.pointer none)).run P w = .ok a.isNone w := equalIn_ptr_nil 9999 h a
theorem equal_nilFunc {t : TypeId} {a b : Array TypeId} {c : Bool} (h : P.underlying t = some (.func a b c)) :
    (Op.equal t .nilFunc .nilFunc).run P w = .ok true w := equalIn_nilFunc 9999 h
theorem equal_func_nil {t : TypeId} {a b : Array TypeId} {c : Bool} (h : P.underlying t = some (.func a b c)) (f : Fn) (x y : Array Value) :
    (Op.equal t (.func f x y) .nilFunc).run P w = .ok false w := equalIn_func_nil 9999 h f x y
theorem equal_bool {t : TypeId} (h : P.underlying t = some .bool) (a b : Bool) :
    (Op.equal t (.bool a) (.bool b)).run P w = .ok (a == b) w := equalIn_bool 9999 h a b

theorem equalIn_map_nil (d : Nat) {t k e : TypeId} (h : P.underlying t = some (.map k e)) (a : Option Nat) :
    (Op.equalIn (d + 1) t (.map a) (.map none)).run P w = .ok a.isNone w := by
  cases a <;> simp [Op.equalIn, run_underlying h]
theorem equal_map_nil {t k e : TypeId} (h : P.underlying t = some (.map k e)) (a : Option Nat) :
    (Op.equal t (.map a) (.map none)).run P w = .ok a.isNone w := equalIn_map_nil 9999 h a
theorem equalIn_ifc_nil (d : Nat) {t : TypeId} {ms} (h : P.underlying t = some (.interface ms)) :
    (Op.equalIn (d + 1) t .nilIface .nilIface).run P w = .ok true w ∧ ∀ k v, (Op.equalIn (d + 1) t (.iface k v) .nilIface).run P w = .ok false w :=
  ⟨by simp [Op.equalIn, run_underlying h], fun k v => by simp [Op.equalIn, run_underlying h]⟩
theorem equal_ifc_nil {t : TypeId} {ms} (h : P.underlying t = some (.interface ms)) :
    (Op.equal t .nilIface .nilIface).run P w = .ok true w ∧ ∀ d v, (Op.equal t (.iface d v) .nilIface).run P w = .ok false w := equalIn_ifc_nil 9999 h

/-- a part of an aggregate of data -/
theorem partD_ok (hty : TyOk P ty) {t : Nat} {ti : TI} (ht : ty t = some ti) {cs : List D} {vs : Array Value} {off : Nat} {y : D} (h : pieceD ti cs off = some y) (hx : RD γ.fz w (.agg cs) (.agg vs)) :
    ∃ u, (part t vs off).run P w = .ok u w ∧ RD γ.fz w y u := by
  have hs := hty.size ht w
  have ha := hty.isAgg ht w
  cases hx with
  | agg _ vs hl h1 hr' =>
    unfold pieceD at h
    cases hag : ti.desc.isAgg with
    | true =>
      simp only [hag, if_true] at h
      split at h <;> cases h
      rename_i hle
      refine ⟨.agg (vs.extract off (off + ti.size)), by simp [part, ha, hs, hag], .agg _ _ (by simp; omega) (fun y hy => ?_) (fun j y v hy hv => ?_)⟩
      · exact h1 y (List.mem_of_mem_drop (List.mem_of_mem_take hy))
      · rw [List.getElem?_take] at hy
        split at hy
        · rw [List.getElem?_drop] at hy
          rw [Array.getElem?_extract] at hv
          split at hv
          · exact hr' _ y v hy hv
          · cases hv
        · cases hy
    | false =>
      simp only [hag, Bool.false_eq_true, if_false] at h
      have hlt := (List.getElem?_eq_some_iff.1 h).1
      have hv : vs[off]? = some vs[off] := by simp [hl ▸ hlt]
      exact ⟨vs[off], by simp [part, ha, hag, hv], hr' _ _ _ h hv⟩

theorem eqS_ok {x y : D} {u v : Value} {b : Bool} (h : eqS x y = some b) (hx : RD γ.fz w x u) (hy : RD γ.fz w y v) {t : Nat} {i : TI} (hty : TyOk P ty) (ht : ty t = some i) (hs : scalarOf i.desc x = true) (d : Nat) :
    (Op.equalIn (d + 1) t u v).run P w = .ok b w := by
  have hd := hty.desc ht
  unfold scalarOf at hs
  unfold eqS at h
  split at h
  · cases h; cases hx; cases hy
    simp only at hs
    split at hs <;> first | (cases hs; done) | skip
    rename_i hdd
    rw [hdd] at hd; simp only [descOk] at hd
    split at hd <;> first | (cases hd; done) | skip
    rename_i hu
    exact run_equalIn_bool' w d t _ _ hu
  · split at h <;> first | (cases h; done) | skip
    rename_i hk
    subst hk
    cases h; cases hx; cases hy
    simp only at hs
    split at hs <;> first | (cases hs; done) | skip
    rename_i hdd
    rw [hdd] at hd; simp only [descOk] at hd
    split at hd <;> first | (cases hd; done) | skip
    rename_i hu
    exact run_equalIn_int w d t _ _ _ _ hu
  · cases h
    cases hx with
    | str _ s hs1 =>
      cases hy with
      | str _ s' hs2 =>
        subst hs1 hs2
        simp only at hs
        split at hs <;> first | (cases hs; done) | skip
        rename_i hdd
        rw [hdd] at hd; simp only [descOk] at hd
        split at hd <;> first | (cases hd; done) | skip
        rename_i hu
        rw [run_equalIn_string w d t _ _ hu, ByteArray.toList_eq, ByteArray.toList_eq]
  · cases h

theorem eqT_ok {E : Env} (hE : E.ty = ty) (hty : TyOk P ty) : ∀ (n : Nat),
    (∀ (d t : Nat) (x y : D) (b : Bool) (u v : Value), n ≤ d → eqT E n t x y = some b → RD γ.fz w x u → RD γ.fz w y v → (Op.equalIn d t u v).run P w = .ok b w) ∧
    (∀ (d : Nat) (rs : List (Nat × Nat × Nat)) (fs : List Field) (xs ys : List D) (b : Bool) (us vs : Array Value), n ≤ d → eqFs E n rs xs ys = some b →
      fs.map (fun f => (f.offset, f.type)) = rs.map (fun r => (r.1, r.2.1)) → (∀ f ∈ fs, f.name ≠ "_") → RD γ.fz w (.agg xs) (.agg us) → RD γ.fz w (.agg ys) (.agg vs) → (Op.eqFields d us vs fs).run P w = .ok b w) := by
  subst hE
  intro n
  induction n with
  | zero =>
    refine ⟨fun d t x y b u v _ h => ?_, fun d rs fs xs ys b us vs _ h => ?_⟩
    · simp [eqT] at h
    · simp [eqFs] at h
  | succ n ih =>
    refine ⟨fun d t x y b u v hd h hx hy => ?_, fun d rs fs xs ys b us vs hd h hm hn hx hy => ?_⟩
    · obtain ⟨d, rfl⟩ : ∃ k, d = k + 1 := ⟨d - 1, by omega⟩
      simp only [eqT] at h
      cases ht : E.ty t with
      | none => simp [ht] at h
      | some i =>
        simp only [ht, Option.bind_some] at h
        split at h
        · rename_i fs hdd
          split at h <;> first | (cases h; done) | skip
          rename_i hp
          split at h <;> first | (cases h; done) | skip
          rename_i xs ys
          obtain ⟨_, h2, fields, hu, hnm⟩ := hty.plain ht hp
          obtain ⟨fields', hu', hm⟩ := hty.struct ht hdd
          rw [hu] at hu'
          cases hu'
          have hfo : P.fieldsOf t = fields := by simp [Program.fieldsOf, hu]
          have hm2 : fields.toList.map (fun f => (f.offset, f.type)) = fs.map (fun r => (r.1, r.2.1)) := by
            have := congrArg (List.map (fun q : Nat × Nat × Option Nat => (q.1, q.2.1))) hm
            simpa [List.map_map, Function.comp_def] using this
          have hx0 := hx
          have hy0 := hy
          cases hx with
          | agg _ us hl h1 hr =>
            cases hy with
            | agg _ vs hl' h1' hr' =>
              rw [run_equalIn_struct w d t us vs (by rw [hfo]; exact hu) h2, hfo]
              exact ih.2 d fs fields.toList xs ys b us vs (by omega) h hm2 hnm hx0 hy0
        · split at h <;> first | (cases h; done) | skip
          rename_i hsc
          exact eqS_ok h hx hy hty ht hsc d
    · cases rs with
      | nil =>
        simp only [eqFs, Option.some.injEq] at h
        subst h
        cases fs with
        | nil => simp [Op.eqFields]
        | cons f fs => simp at hm
      | cons r rs =>
        cases fs with
        | nil => simp at hm
        | cons f fs =>
          simp only [List.map_cons, List.cons.injEq, Prod.mk.injEq] at hm
          obtain ⟨⟨e1, e2⟩, hm⟩ := hm
          simp only [eqFs] at h
          cases hti : E.ty r.2.1 with
          | none => simp [hti] at h
          | some ti =>
            cases hpx : pieceD ti xs r.1 with
            | none => simp [hti, hpx] at h
            | some x =>
              cases hpy : pieceD ti ys r.1 with
              | none => simp [hti, hpx, hpy] at h
              | some y =>
                cases heq : eqT E n r.2.1 x y with
                | none => simp [hti, hpx, hpy, heq] at h
                | some b1 =>
                  simp only [hti, hpx, hpy, heq, Option.bind_some, Option.map_eq_some_iff] at h
                  obtain ⟨c, h, rfl⟩ := h
                  rw [← e1] at hpx hpy
                  rw [← e2] at hti heq
                  obtain ⟨u, hu1, hu2⟩ := partD_ok hty hti hpx hx
                  obtain ⟨v, hv1, hv2⟩ := partD_ok hty hti hpy hy
                  have hq := ih.1 d f.type x y b1 u v (by omega) heq hu2 hv2
                  have hrest := ih.2 d rs fs xs ys c us vs (by omega) h hm (fun g hg => hn g (List.mem_cons_of_mem _ hg)) hx hy
                  have hnf := hn f (by simp)
                  simp only [Op.eqFields, hnf, ne_eq, not_false_eq_true, if_true, Sem.run_bind, hu1, hv1, hq, Result.andThen_ok]
                  cases b1 with
                  | false => simp
                  | true => simpa using hrest

include hty
theorem nilOf_ok {t : Nat} {i : TI} (ht : ty t = some i) {x y : V} {b c : Bool} {v u : Value} (h : nilOf i.desc x = some b) (hy : nilFor c i.desc y = true) (hx : RV γ S w x v) (hu : RV γ S w y u)
    {op : BinOp} {r : D} (hr : eqOp op b = some r) (xo yo : Operand) (hc : c = true → (xo matches .const _) = true ∨ (yo matches .const _) = true) :
    ∃ z, ((eqGuard op t xo yo v u).bind fun _ => Go.binOp op t v u).run P w = .ok z w ∧ RD γ.fz w r z := by
  have hd := hty.desc ht
  have hptr : ∀ e, i.desc = .ptr e → P.underlying t = some (.pointer e) := fun e he => by
    rw [he] at hd; simp only [descOk] at hd; split at hd
    · rename_i hu; simp only [beq_iff_eq] at hd; rw [hu, hd]
    · cases hd
  have hfunc : i.desc = .func → ∃ a b c, P.underlying t = some (.func a b c) := fun he => by
    rw [he] at hd; simp only [descOk] at hd; split at hd
    · rename_i hu; exact ⟨_, _, _, hu⟩
    · cases hd
  have hmap : ∀ k e, i.desc = .map k e → P.underlying t = some (.map k e) := fun k e he => by
    rw [he] at hd; simp only [descOk] at hd; split at hd
    · rename_i hu; simp only [beq_iff_eq, Bool.and_eq_true] at hd; rw [hu, hd.1, hd.2]
    · cases hd
  have hifc : i.desc = .ifc → ∃ ms, P.underlying t = some (.interface ms) := fun he => by
    rw [he] at hd; simp only [descOk] at hd; split at hd
    · rename_i hu; exact ⟨_, hu⟩
    · cases hd
  have hopS : ∀ (a c : Option Addr) (n m k l : Nat), ∀ op, op = .eql ∨ op = .neq → Go.binOp op t (.slice a n m) (.slice c k l) = (match op with | .eql => (do pure (.bool (← Op.equal t (.slice a n m) (.slice c k l)))) | _ => (do pure (.bool (!(← Op.equal t (.slice a n m) (.slice c k l)))))) := by
    rintro a c n m k l op (rfl | rfl) <;> rfl
  have hopP : ∀ (a c : Option Addr), ∀ op, op = .eql ∨ op = .neq → Go.binOp op t (.pointer a) (.pointer c) = (match op with | .eql => (do pure (.bool (← Op.equal t (.pointer a) (.pointer c)))) | _ => (do pure (.bool (!(← Op.equal t (.pointer a) (.pointer c)))))) := by
    rintro a c op (rfl | rfl) <;> rfl
  cases hdd : i.desc <;> rw [hdd] at h hy
  case sl e es eb =>
    have hP := (hty.slice ht hdd).1
    obtain ⟨a, n, m, rfl, hb⟩ : ∃ a n c, v = .slice a n c ∧ a.isNone = b := by
      unfold nilOf at h
      split at h <;> first | (cases h; done) | (simp at h; done) | skip
      · cases h; cases hx; exact ⟨_, _, _, rfl, rfl⟩
      · cases h; cases hx; exact ⟨_, _, _, rfl, rfl⟩
      · cases h
        cases hx with
        | d _ _ hx =>
          rcases hx.sl_inv with ⟨h, _⟩ | ⟨_, a, cap, vs, rfl, _⟩
          · cases h
          · exact ⟨_, _, _, rfl, rfl⟩
      · simp only [Option.ite_none_right_eq_some] at h
        obtain ⟨hn, h⟩ := h
        cases h
        cases hx with
        | sl _ _ _ ob _ h1 ho hb hsl =>
          obtain ⟨a, m, c, rfl⟩ := h1.2 hn
          exact ⟨_, _, _, rfl, rfl⟩
    obtain rfl : y = .nil := by
      unfold nilFor at hy
      split at hy <;> first | rfl | (simp at hy)
    cases hu
    subst hb
    obtain ⟨z, h1, h2⟩ := eqOp_ok (γ := γ) (w := w) hr (hopS a none n m 0 0) (equal_slice_nil hP a n m)
    refine ⟨z, ?_, h2⟩
    rw [eqGuard_at_slice]
    exact h1
  case ptr e =>
    have hP := hptr e hdd
    obtain ⟨a, rfl, hb⟩ : ∃ a, v = .pointer a ∧ a.isNone = b := by
      unfold nilOf at h
      split at h <;> first | (cases h; done) | (simp at h; done) | skip
      · cases hx with
        | d _ _ hx => cases hx; cases h; exact ⟨_, rfl, rfl⟩
      · cases hx; cases h; exact ⟨_, rfl, rfl⟩
      · cases hx; cases h; exact ⟨_, rfl, rfl⟩
      · cases hx; cases h; exact ⟨_, rfl, rfl⟩
    obtain rfl : u = .pointer none := by
      unfold nilFor at hy
      split at hy <;> first | (cases hy; done) | (simp at hy; done) | skip
      cases hu with
      | d _ _ hu => cases hu; rfl
    subst hb
    obtain ⟨z, h1, h2⟩ := eqOp_ok (γ := γ) (w := w) hr (hopP a none) (equal_ptr_nil hP a)
    refine ⟨z, ?_, h2⟩
    rw [eqGuard_at_pointer]
    exact h1
  case map k e =>
    have hP := hmap k e hdd
    obtain ⟨a, rfl, hb⟩ : ∃ a, v = .map a ∧ a.isNone = b := by
      unfold nilOf at h
      split at h <;> first | (cases h; done) | (simp at h; done) | skip
      · cases hx with
        | d _ _ hx => cases hx; cases h; exact ⟨_, rfl, rfl⟩
      · cases hx; cases h; exact ⟨_, rfl, rfl⟩
    obtain rfl : u = .map none := by
      unfold nilFor at hy
      split at hy <;> first | (cases hy; done) | (simp at hy; done) | skip
      cases hu with
      | d _ _ hu => cases hu; rfl
    subst hb
    obtain ⟨z, h1, h2⟩ := eqOp_ok (γ := γ) (w := w) hr (t := t) (x := .map a) (y := .map none) (by rintro op (rfl | rfl) <;> rfl) (equal_map_nil hP a)
    refine ⟨z, ?_, h2⟩
    rw [eqGuard_at_map]
    exact h1
  case ifc =>
    obtain ⟨ms, hP⟩ := hifc hdd
    obtain ⟨q1, q2⟩ := equal_ifc_nil (w := w) hP
    obtain ⟨rfl, hcc⟩ : u = .nilIface ∧ c = true := by
      unfold nilFor at hy
      split at hy <;> first | (cases hy; done) | (simp at hy; done) | skip
      cases hu with
      | d _ _ hu => cases hu; exact ⟨rfl, by simpa using hy⟩
    have hk := hc hcc
    have hv : (v = .nilIface ∧ b = true) ∨ (∃ f x, v = .iface f x ∧ b = false) := by
      unfold nilOf at h
      split at h <;> first | (cases h; done) | (simp at h; done) | skip
      · cases hx with
        | d _ _ hx => cases hx; cases h; exact .inl ⟨rfl, rfl⟩
      · cases hx with
        | d _ _ hx => cases hx; cases h; exact .inr ⟨_, _, rfl, rfl⟩
    rcases hv with ⟨rfl, rfl⟩ | ⟨f, x', rfl, rfl⟩
    · obtain ⟨z, h1, h2⟩ := eqOp_ok (γ := γ) (w := w) hr (t := t) (x := .nilIface) (y := .nilIface) (by rintro op (rfl | rfl) <;> rfl) q1
      refine ⟨z, ?_, h2⟩
      have hg : eqGuard op t xo yo .nilIface .nilIface = pure () := by
        rcases hk with hk | hk
        · cases xo <;> first | (cases hk; done) | (cases op <;> rfl)
        · cases yo <;> first | (cases hk; done) | (cases op <;> cases xo <;> rfl)
      rw [hg]
      exact h1
    · obtain ⟨z, h1, h2⟩ := eqOp_ok (γ := γ) (w := w) hr (t := t) (x := .iface f x') (y := .nilIface) (by rintro op (rfl | rfl) <;> rfl) (q2 f x')
      refine ⟨z, ?_, h2⟩
      rw [eqGuard_at_iface]
      exact h1
  case func =>
    obtain ⟨p, q, c', hP⟩ := hfunc hdd
    obtain rfl : u = .nilFunc := by
      unfold nilFor at hy
      split at hy <;> first | (cases hy; done) | (simp at hy; done) | skip
      cases hu with
      | d _ _ hu => cases hu; rfl
    have hv : (v = .nilFunc ∧ b = true) ∨ (∃ f x y, v = .func f x y ∧ b = false) := by
      unfold nilOf at h
      split at h <;> first | (cases h; done) | (simp at h; done) | skip
      · cases hx with
        | d _ _ hx => cases hx; cases h; exact .inl ⟨rfl, rfl⟩
      · cases hx; cases h; exact .inr ⟨_, _, _, rfl, rfl⟩
      · cases hx with
        | d _ _ hx => cases hx; cases h; exact .inr ⟨_, _, _, rfl, rfl⟩
    rcases hv with ⟨rfl, rfl⟩ | ⟨f, x', y', rfl, rfl⟩
    · obtain ⟨z, h1, h2⟩ := eqOp_ok (γ := γ) (w := w) hr (t := t) (x := .nilFunc) (y := .nilFunc) (by rintro op (rfl | rfl) <;> rfl) (equal_nilFunc hP)
      refine ⟨z, ?_, h2⟩
      rw [eqGuard_at_nilFunc]
      exact h1
    · obtain ⟨z, h1, h2⟩ := eqOp_ok (γ := γ) (w := w) hr (t := t) (x := .func f x' y') (y := .nilFunc) (by rintro op (rfl | rfl) <;> rfl) (equal_func_nil hP f x' y')
      refine ⟨z, ?_, h2⟩
      rw [eqGuard_at_func]
      exact h1
  all_goals
    exfalso
    unfold nilFor at hy
    split at hy <;> simp at hy

theorem binV_ok {E : Env} (hE : E.ty = ty) {c : Bool} {op : BinOp} {t : Nat} {x y : V} {r : D} {v u : Value} (h : binV E c op t x y = some r) (hx : RV γ S w x v) (hu : RV γ S w y u) (xo yo : Operand)
    (hc : c = true → (xo matches .const _) = true ∨ (yo matches .const _) = true) :
    ∃ z, ((eqGuard op t xo yo v u).bind fun _ => Go.binOp op t v u).run P w = .ok z w ∧ RD γ.fz w r z := by
  subst hE
  unfold binV at h
  split at h
  · cases hx with
    | d _ _ hx =>
      cases hx
      cases hu with
      | d _ _ hu =>
        cases hu
        rw [eqGuard_at_int]
        split at h
        · exact shiftOp_ok (P := P) (γ := γ) (w := w) h t
        · split at h <;> first | (cases h; done) | skip
          rename_i hk
          subst hk
          exact intOp_ok (P := P) (γ := γ) (w := w) h t
  · cases hx with
    | d _ _ hx =>
      cases hu with
      | d _ _ hu => exact strOp_ok h t hx hu xo yo
  · rename_i a b
    cases hx with
    | d _ _ hx =>
      cases hx
      cases hu with
      | d _ _ hu =>
        cases hu
        cases ht : E.ty t with
        | none => simp [ht] at h
        | some i =>
          simp only [ht, Option.bind_some] at h
          split at h <;> first | (cases h; done) | skip
          rename_i hd
          have h1 := hty.desc ht
          rw [hd] at h1
          simp only [descOk] at h1
          split at h1 <;> first | (cases h1; done) | skip
          rename_i hP
          have he : (Op.equal t (.bool a) (.bool b)).run P w = .ok (a == b) w := equal_bool hP a b
          obtain ⟨z, h1, h2⟩ := eqOp_ok (γ := γ) (w := w) h (t := t) (x := .bool a) (y := .bool b) (by rintro op (rfl | rfl) <;> rfl) he
          exact ⟨z, by rw [eqGuard_at_bool]; exact h1, h2⟩
  · cases ht : E.ty t with
    | none => simp [ht] at h
    | some i =>
      simp only [ht, Option.bind_some] at h
      split at h
      · rename_i hn
        cases hb : nilOf i.desc x with
        | none => simp [hb] at h
        | some b =>
          simp only [hb, Option.bind_some] at h
          exact nilOf_ok hty ht hb hn hx hu h xo yo hc
      · split at h <;> first | (cases h; done) | skip
        rename_i fs hd
        cases ha : asD x with
        | none => simp [ha] at h
        | some a =>
          cases hb : asD y with
          | none => simp [ha, hb] at h
          | some b =>
            cases he : eqT E 40 t a b with
            | none => simp [ha, hb, he] at h
            | some q =>
              simp only [ha, hb, he, Option.bind_some] at h
              have hxa := asD_ok γ S w _ _ _ ha hx
              have hyb := asD_ok γ S w _ _ _ hb hu
              have heq := (eqT_ok (γ := γ) (w := w) rfl hty 40).1 10000 t a b q v u (by decide) he hxa hyb
              simp only [eqT, ht, Option.bind_some, hd] at he
              split at he <;> first | (cases he; done) | skip
              rename_i hp
              split at he <;> first | (cases he; done) | skip
              obtain ⟨hg, _⟩ := hty.plain ht hp
              cases hxa with
              | agg _ us _ _ _ =>
                cases hyb with
                | agg _ vs _ _ _ =>
                  have hge := run_eqGuard_agg w op t xo yo us vs hg
                  obtain ⟨z, h1, h2⟩ := eqOp_ok (P := P) (γ := γ) (w := w) h (t := t) (x := .agg us) (y := .agg vs) (by rintro op (rfl | rfl) <;> rfl) heq
                  refine ⟨z, ?_, h2⟩
                  refine Eq.trans (Sem.run_bind _ _ _ _) ?_
                  rw [hge]
                  exact h1

omit hty
theorem fldA_ok {E : Env} (hE : E.ty = ty) (hty : TyOk P ty) {t f : Nat} {x y : V} {v : Value} (h : fldA E t f x = some y) (hx : RV γ S w x v) :
    ∃ u, (Instr.fieldAt t v f).run P w = .ok u w ∧ RV γ S w y u := by
  subst hE
  unfold fldA Env.fields at h
  cases ht : E.ty t with
  | none => simp [ht] at h
  | some i =>
    simp only [ht, Option.bind_some] at h
    cases hd : i.desc <;> rw [hd] at h <;> simp only [Option.bind_none, Option.bind_some] at h <;> first | (cases h; done) | skip
    rename_i fs
    cases hf : fs[f]? with
    | none => simp [hf] at h
    | some r =>
      simp only [hf, Option.bind_some] at h
      split at h <;> first | (cases h; done) | skip
      rename_i hz
      obtain ⟨fields, fd, hP, hfd', e1, e2, hs⟩ := hty.field ht hd hf
      have hs := hs w
      rw [← e1] at h
      split at h <;> cases h
      · cases hx with
        | cptr _ b o _ vs hc hrr =>
          refine ⟨_, ?_, .cptr _ b o _ vs hc hrr⟩
          simp [Instr.fieldAt, run_underlying hP, hfd', Instr.sureAddr, fieldPlace, hs, hz, Addr.add_lit, Nat.add_assoc]
      · cases hx with
        | ptr _ _ b cs ho hb =>
          refine ⟨_, ?_, .ptr _ _ b cs ho hb⟩
          simp [Instr.fieldAt, run_underlying hP, hfd', Instr.sureAddr, fieldPlace, hs, hz, Addr.add_lit]
      · rename_i o k off
        cases hx with
        | eptr _ _ _ ob a ho hb hh =>
          refine ⟨.pointer (some (a.add fd.offset)), ?_, .eptr _ _ _ ob _ ho hb fun e sz xs hro => ?_⟩
          · simp [Instr.fieldAt, run_underlying hP, hfd', Instr.sureAddr, fieldPlace, hs, hz]
          · obtain ⟨b, q1, q2⟩ := hh e sz xs hro
            exact ⟨b, q1, by rw [q2, Addr.add_lit, Nat.add_assoc]⟩

theorem fldV_ok {E : Env} (hE : E.ty = ty) (hty : TyOk P ty) {t f : Nat} {x y : V} {v : Value} (h : fldV E t f x = some y) (hx : RV γ S w x v) :
    ∃ u, (Instr.field t v f).run P w = .ok u w ∧ RV γ S w y u := by
  subst hE
  unfold fldV Env.fields at h
  cases ht : E.ty t with
  | none => simp [ht] at h
  | some i =>
    simp only [ht, Option.bind_some] at h
    cases hd : i.desc <;> rw [hd] at h <;> simp only [Option.bind_none, Option.bind_some] at h <;> first | (cases h; done) | skip
    rename_i fs
    cases hf : fs[f]? with
    | none => simp [hf] at h
    | some r =>
      simp only [hf, Option.bind_some] at h
      cases hr : E.ty r.2.1 with
      | none => simp [hr] at h
      | some ti =>
        simp only [hr, Option.bind_some] at h
        obtain ⟨fields, fd, hP, hfd', e1, e2, _⟩ := hty.field ht hd hf
        rw [← e1] at h
        rw [← e2] at hr
        have hs := hty.size hr w
        have ha := hty.isAgg hr w
        have key : ∀ vs : Array Value, (Instr.field t (.agg vs) f).run P w = if ti.desc.isAgg then .ok (.agg (vs.extract fd.offset (fd.offset + ti.size))) w else
            (match vs[fd.offset]? with | some v => .ok v w | none => .halt (.stuck "part: no such cell") w) := by
          intro vs
          cases hag : ti.desc.isAgg <;> rw [hag] at ha <;> simp [Instr.field, run_underlying hP, hfd', asAgg, part, ha, hs]
          cases vs[fd.offset]? <;> rfl
        split at h
        · rename_i cs
          simp only [Option.map_eq_some_iff] at h
          obtain ⟨y', h, rfl⟩ := h
          cases hx with
          | d _ _ hx =>
            cases hx with
            | agg _ vs hl h1 hr' =>
              rw [key]
              unfold pieceD at h
              cases hag : ti.desc.isAgg with
              | true =>
                simp only [hag, if_true] at h
                split at h <;> cases h
                rename_i hle
                refine ⟨_, by simp; rfl, .d _ _ (.agg _ _ (by simp; omega) (fun y hy => ?_) (fun j y v hy hv => ?_))⟩
                · exact h1 y (List.mem_of_mem_drop (List.mem_of_mem_take hy))
                · rw [List.getElem?_take] at hy
                  split at hy
                  · rw [List.getElem?_drop] at hy
                    rw [Array.getElem?_extract] at hv
                    split at hv
                    · exact hr' _ y v hy hv
                    · cases hv
                  · cases hy
              | false =>
                simp only [hag, Bool.false_eq_true, if_false] at h
                have hlt := (List.getElem?_eq_some_iff.1 h).1
                have hv : vs[fd.offset]? = some vs[fd.offset] := by simp [hl ▸ hlt]
                exact ⟨_, by simp only [Bool.false_eq_true, if_false, hv], .d _ _ (hr' _ _ _ h hv)⟩
        · rename_i cs
          cases hx with
          | agg _ vs hl h1 hr' =>
            rw [key]
            unfold pieceV at h
            cases hag : ti.desc.isAgg with
            | true =>
              simp only [hag, if_true] at h
              split at h <;> cases h
              rename_i hle
              refine ⟨_, by simp; rfl, mkAgg_ok (by simp; omega) (fun j v hv => ?_) (fun j y v hy hv => ?_)⟩
              · rw [Array.getElem?_extract] at hv
                split at hv
                · exact h1 _ v hv
                · cases hv
              · rw [List.getElem?_take] at hy
                split at hy
                · rw [List.getElem?_drop] at hy
                  rw [Array.getElem?_extract] at hv
                  split at hv
                  · exact hr' _ y v hy hv
                  · cases hv
                · cases hy
            | false =>
              simp only [hag, Bool.false_eq_true, if_false] at h
              have hlt := (List.getElem?_eq_some_iff.1 h).1
              have hv : vs[fd.offset]? = some vs[fd.offset] := by simp [hl ▸ hlt]
              exact ⟨_, by simp only [Bool.false_eq_true, if_false, hv], hr' _ _ _ h hv⟩
        · cases h
end
end Go.Wm
