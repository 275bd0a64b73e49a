/-
  A part of the proof: an abstract run of the program, shown to be what the model does, and what it comes to.
-/
import Derived.Test.YtfopbbeieegfcaaVmE
set_option linter.unusedVariables false
set_option linter.unusedSimpArgs false
set_option linter.unusedSectionVars false
set_option linter.unnecessarySimpa false
namespace Go.Vm
open Go

section
variable {P : Program} {ty : Nat → Option TI} (hty : TyOk P ty) {γ : Gh} {S : St} {w : World}

theorem intOp_ok {op : BinOp} {k : IntKind} {a b : Int} {r : D} (h : intOp op k a b = some r) (t : TypeId) :
    ∃ u, (Go.binOp op t (.int k a) (.int k b)).run P w = .ok u w ∧ RD γ.fz w r u := by
  unfold intOp intCmp at h
  cases op <;> simp only at h <;> first
    | (cases h; done)
    | (cases h; exact ⟨_, by simp [Go.binOp, Op.intArith, Op.intCmp]; rfl, by constructor⟩)
    | (split at h <;> cases h; rename_i hb; exact ⟨_, by simp [Go.binOp, Op.intDiv, hb]; rfl, by constructor⟩)

theorem strOp_ok {op : BinOp} {a b : ByteArray} {r : D} (h : strOp op a b = some r) (t : TypeId) :
    ∃ u, (Go.binOp op t (.string a) (.string b)).run P w = .ok u w ∧ RD γ.fz w r u := by
  unfold strOp at h
  cases op <;> simp only at h <;> first
    | (cases h; done)
    | (cases h; exact ⟨_, rfl, by constructor⟩)
    | skip
  split at h <;> cases h
  rename_i hle
  have : ¬ (9223372036854775807 < ((a.size : Int) + (b.size : Int))) := by omega
  exact ⟨_, by simp [Go.binOp, Op.stringOp, this]; rfl, by constructor⟩

theorem eqOp_ok {op : BinOp} {b : Bool} {r : D} (h : eqOp op b = some r) {t : TypeId} {x y : Value}
    (hop : ∀ op, op = .eql ∨ op = .neq → Go.binOp op t x y = (match op with | .eql => (do pure (.bool (← Op.equal t x y))) | _ => (do pure (.bool (!(← Op.equal t x y))))))
    (he : (Op.equal t x y).run P w = .ok b w) :
    ∃ u, (Go.binOp op t x y).run P w = .ok u w ∧ RD γ.fz w r u := by
  unfold eqOp at h
  cases op <;> simp only at h <;> first | (cases h; done) | skip
  · cases h
    refine ⟨.bool b, ?_, .bool b⟩
    rw [hop .eql (.inl rfl)]
    simp [he]
  · cases h
    refine ⟨.bool (!b), ?_, .bool (!b)⟩
    rw [hop .neq (.inr rfl)]
    simp [he]

theorem equalIn_slice_nil (d : Nat) {t e : TypeId} (h : P.underlying t = some (.slice e)) (a : Option Addr) (n c : Nat) :
    (Op.equalIn (d + 1) t (.slice a n c) (.slice none 0 0)).run P w = .ok a.isNone w := by
  cases a <;> simp [Op.equalIn, run_underlying h]
theorem equalIn_ptr_nil (d : Nat) {t e : TypeId} (h : P.underlying t = some (.pointer e)) (a : Option Addr) :
    (Op.equalIn (d + 1) t (.pointer a) (.pointer none)).run P w = .ok a.isNone w := by
  cases a <;> simp [Op.equalIn, run_underlying h]
theorem equalIn_nilFunc (d : Nat) {t : TypeId} {a b : Array TypeId} {c : Bool} (h : P.underlying t = some (.func a b c)) :
    (Op.equalIn (d + 1) t .nilFunc .nilFunc).run P w = .ok true w := by
  simp [Op.equalIn, run_underlying h]
theorem equalIn_func_nil (d : Nat) {t : TypeId} {a b : Array TypeId} {c : Bool} (h : P.underlying t = some (.func a b c)) (f : Fn) (x y : Array Value) :
    (Op.equalIn (d + 1) t (.func f x y) .nilFunc).run P w = .ok false w := by
  simp [Op.equalIn, run_underlying h]
theorem equalIn_bool (d : Nat) {t : TypeId} (h : P.underlying t = some .bool) (a b : Bool) :
    (Op.equalIn (d + 1) t (.bool a) (.bool b)).run P w = .ok (a == b) w := by
  simp [Op.equalIn, run_underlying h]
theorem equal_slice_nil {t e : TypeId} (h : P.underlying t = some (.slice e)) (a : Option Addr) (n c : Nat) :
    (Op.equal t (.slice a n c) (.slice none 0 0)).run P w = .ok a.isNone w := equalIn_slice_nil 9999 h a n c
theorem equal_ptr_nil {t e : TypeId} (h : P.underlying t = some (.pointer e)) (a : Option Addr) :
    (Op.equal t (.pointer a) (.pointer none)).run P w = .ok a.isNone w := equalIn_ptr_nil 9999 h a
theorem equal_nilFunc {t : TypeId} {a b : Array TypeId} {c : Bool} (h : P.underlying t = some (.func a b c)) :
    (Op.equal t .nilFunc .nilFunc).run P w = .ok true w := equalIn_nilFunc 9999 h
theorem equal_func_nil {t : TypeId} {a b : Array TypeId} {c : Bool} (h : P.underlying t = some (.func a b c)) (f : Fn) (x y : Array Value) :
    (Op.equal t (.func f x y) .nilFunc).run P w = .ok false w := equalIn_func_nil 9999 h f x y
theorem equal_bool {t : TypeId} (h : P.underlying t = some .bool) (a b : Bool) :
    (Op.equal t (.bool a) (.bool b)).run P w = .ok (a == b) w := equalIn_bool 9999 h a b

include hty
theorem nilOf_ok {t : Nat} {i : TI} (ht : ty t = some i) {x y : V} {b : Bool} {v u : Value} (h : nilOf i.desc x = some b) (hy : nilFor i.desc y = true) (hx : RV γ S w x v) (hu : RV γ S w y u)
    {op : BinOp} {r : D} (hr : eqOp op b = some r) (xo yo : Operand) :
    ∃ z, ((eqGuard op t xo yo v u).bind fun _ => Go.binOp op t v u).run P w = .ok z w ∧ RD γ.fz w r z := by
  have hd := hty.desc ht
  have hptr : ∀ e, i.desc = .ptr e → P.underlying t = some (.pointer e) := fun e he => by
    rw [he] at hd; simp only [descOk] at hd; split at hd
    · rename_i hu; simp only [beq_iff_eq] at hd; rw [hu, hd]
    · cases hd
  have hfunc : i.desc = .func → ∃ a b c, P.underlying t = some (.func a b c) := fun he => by
    rw [he] at hd; simp only [descOk] at hd; split at hd
    · rename_i hu; exact ⟨_, _, _, hu⟩
    · cases hd
  have hopS : ∀ (a c : Option Addr) (n m k l : Nat), ∀ op, op = .eql ∨ op = .neq → Go.binOp op t (.slice a n m) (.slice c k l) = (match op with | .eql => (do pure (.bool (← Op.equal t (.slice a n m) (.slice c k l)))) | _ => (do pure (.bool (!(← Op.equal t (.slice a n m) (.slice c k l)))))) := by
    rintro a c n m k l op (rfl | rfl) <;> rfl
  have hopP : ∀ (a c : Option Addr), ∀ op, op = .eql ∨ op = .neq → Go.binOp op t (.pointer a) (.pointer c) = (match op with | .eql => (do pure (.bool (← Op.equal t (.pointer a) (.pointer c)))) | _ => (do pure (.bool (!(← Op.equal t (.pointer a) (.pointer c)))))) := by
    rintro a c op (rfl | rfl) <;> rfl
  cases hdd : i.desc <;> rw [hdd] at h hy
  case sl e es eb =>
    have hP := (hty.slice ht hdd).1
    obtain ⟨a, n, c, rfl, hb⟩ : ∃ a n c, v = .slice a n c ∧ a.isNone = b := by
      unfold nilOf at h
      split at h <;> first | (cases h; done) | skip
      · cases hx with
        | d _ _ hx =>
          rcases hx.sl_inv with ⟨rfl, _, rfl⟩ | ⟨rfl, a, cap, vs, rfl, _⟩ <;> cases h
          · exact ⟨_, _, _, rfl, rfl⟩
          · exact ⟨_, _, _, rfl, rfl⟩
      · cases hx with
        | fsl _ _ _ _ hx =>
          rcases hx.sl_inv with ⟨rfl, _, e⟩ | ⟨rfl, a, cap, vs, e, _⟩ <;> cases h <;> injection e with e1 e2 e3 <;> subst e1
          · exact ⟨_, _, _, rfl, rfl⟩
          · exact ⟨_, _, _, rfl, rfl⟩
      · cases hx with
        | own _ _ _ _ _ _ _ _ _ hx =>
          rcases hx.sl_inv with ⟨hn, _, rfl⟩ | ⟨hn, a, cap, vs, rfl, _⟩ <;> cases h
          · exact ⟨_, _, _, rfl, by rw [hn]; rfl⟩
          · exact ⟨_, _, _, rfl, by rw [hn]; rfl⟩
      all_goals (simp at h)
    obtain rfl : u = .slice none 0 0 := by
      unfold nilFor at hy
      split at hy <;> first | (cases hy; done) | skip
      · cases hu with
        | d _ _ hu =>
          rcases hu.sl_inv with ⟨_, _, rfl⟩ | ⟨h, _⟩
          · rfl
          · cases h
      all_goals (simp at hy)
    subst hb
    obtain ⟨z, h1, h2⟩ := eqOp_ok (γ := γ) (w := w) hr (hopS a none n c 0 0) (equal_slice_nil hP a n c)
    refine ⟨z, ?_, h2⟩
    rw [eqGuard_at_slice]
    exact h1
  case ptr e =>
    have hP := hptr e hdd
    obtain ⟨a, rfl, hb⟩ : ∃ a, v = .pointer a ∧ a.isNone = b := by
      unfold nilOf at h
      split at h <;> first | (cases h; done) | (simp at h; done) | skip
      · cases hx with
        | d _ _ hx => cases hx; cases h; exact ⟨_, rfl, rfl⟩
      · cases hx; cases h; exact ⟨_, rfl, rfl⟩
      · cases hx; cases h; exact ⟨_, rfl, rfl⟩
    obtain rfl : u = .pointer none := by
      unfold nilFor at hy
      split at hy <;> first | (cases hy; done) | (simp at hy; done) | skip
      cases hu with
      | d _ _ hu => cases hu; rfl
    subst hb
    obtain ⟨z, h1, h2⟩ := eqOp_ok (γ := γ) (w := w) hr (hopP a none) (equal_ptr_nil hP a)
    refine ⟨z, ?_, h2⟩
    rw [eqGuard_at_pointer]
    exact h1
  case func =>
    obtain ⟨p, q, c, hP⟩ := hfunc hdd
    obtain rfl : u = .nilFunc := by
      unfold nilFor at hy
      split at hy <;> first | (cases hy; done) | (simp at hy; done) | skip
      cases hu with
      | d _ _ hu => cases hu; rfl
    have hv : (v = .nilFunc ∧ b = true) ∨ (∃ f x y, v = .func f x y ∧ b = false) := by
      unfold nilOf at h
      split at h <;> first | (cases h; done) | (simp at h; done) | skip
      · cases hx with
        | d _ _ hx => cases hx; cases h; exact .inl ⟨rfl, rfl⟩
      · cases hx; cases h; exact .inr ⟨_, _, _, rfl, rfl⟩
      · cases hx with
        | d _ _ hx => cases hx; cases h; exact .inr ⟨_, _, _, rfl, rfl⟩
    rcases hv with ⟨rfl, rfl⟩ | ⟨f, x', y', rfl, rfl⟩
    · obtain ⟨z, h1, h2⟩ := eqOp_ok (γ := γ) (w := w) hr (t := t) (x := .nilFunc) (y := .nilFunc) (by rintro op (rfl | rfl) <;> rfl) (equal_nilFunc hP)
      refine ⟨z, ?_, h2⟩
      rw [eqGuard_at_nilFunc]
      exact h1
    · obtain ⟨z, h1, h2⟩ := eqOp_ok (γ := γ) (w := w) hr (t := t) (x := .func f x' y') (y := .nilFunc) (by rintro op (rfl | rfl) <;> rfl) (equal_func_nil hP f x' y')
      refine ⟨z, ?_, h2⟩
      rw [eqGuard_at_func]
      exact h1
  all_goals
    exfalso
    unfold nilFor at hy
    split at hy <;> simp at hy

theorem binV_ok {E : Env} (hE : E.ty = ty) {op : BinOp} {t : Nat} {x y : V} {r : D} {v u : Value} (h : binV E op t x y = some r) (hx : RV γ S w x v) (hu : RV γ S w y u) (xo yo : Operand) :
    ∃ z, ((eqGuard op t xo yo v u).bind fun _ => Go.binOp op t v u).run P w = .ok z w ∧ RD γ.fz w r z := by
  subst hE
  unfold binV at h
  split at h
  · split at h <;> first | (cases h; done) | skip
    rename_i hk
    subst hk
    cases hx with
    | d _ _ hx =>
      cases hx
      cases hu with
      | d _ _ hu =>
        cases hu
        obtain ⟨z, h1, h2⟩ := intOp_ok (P := P) (γ := γ) (w := w) h t
        exact ⟨z, by rw [eqGuard_at_int]; exact h1, h2⟩
  · cases hx with
    | d _ _ hx =>
      cases hx
      cases hu with
      | d _ _ hu =>
        cases hu
        obtain ⟨z, h1, h2⟩ := strOp_ok (P := P) (γ := γ) (w := w) h t
        exact ⟨z, by rw [eqGuard_at_string]; exact h1, h2⟩
  · rename_i a b
    cases hx with
    | d _ _ hx =>
      cases hx
      cases hu with
      | d _ _ hu =>
        cases hu
        cases ht : E.ty t with
        | none => simp [ht] at h
        | some i =>
          simp only [ht, Option.bind_some] at h
          split at h <;> first | (cases h; done) | skip
          rename_i hd
          have h1 := hty.desc ht
          rw [hd] at h1
          simp only [descOk] at h1
          split at h1 <;> first | (cases h1; done) | skip
          rename_i hP
          have he : (Op.equal t (.bool a) (.bool b)).run P w = .ok (a == b) w := equal_bool hP a b
          obtain ⟨z, h1, h2⟩ := eqOp_ok (γ := γ) (w := w) h (t := t) (x := .bool a) (y := .bool b) (by rintro op (rfl | rfl) <;> rfl) he
          exact ⟨z, by rw [eqGuard_at_bool]; exact h1, h2⟩
  · cases ht : E.ty t with
    | none => simp [ht] at h
    | some i =>
      simp only [ht, Option.bind_some] at h
      split at h <;> first | (cases h; done) | skip
      rename_i hn
      cases hb : nilOf i.desc x with
      | none => simp [hb] at h
      | some b =>
        simp only [hb, Option.bind_some] at h
        exact nilOf_ok hty ht hb hn hx hu h xo yo

omit hty
theorem fldA_ok {E : Env} (hE : E.ty = ty) (hty : TyOk P ty) {t f : Nat} {x y : V} {v : Value} (h : fldA E t f x = some y) (hx : RV γ S w x v) :
    ∃ u, (Instr.fieldAt t v f).run P w = .ok u w ∧ RV γ S w y u := by
  subst hE
  unfold fldA Env.fields at h
  cases ht : E.ty t with
  | none => simp [ht] at h
  | some i =>
    simp only [ht, Option.bind_some] at h
    cases hd : i.desc <;> rw [hd] at h <;> simp only [Option.bind_none, Option.bind_some] at h <;> first | (cases h; done) | skip
    rename_i fs
    cases hf : fs[f]? with
    | none => simp [hf] at h
    | some r =>
      simp only [hf, Option.bind_some] at h
      split at h <;> first | (cases h; done) | skip
      rename_i hz
      obtain ⟨fields, fd, hP, hfd', e1, e2, hs⟩ := hty.field ht hd hf
      have hs := hs w
      rw [← e1] at h
      split at h <;> cases h
      · cases hx with
        | cptr _ _ b o _ vs hsz hc hrr =>
          refine ⟨_, ?_, .cptr _ _ b o _ vs hsz hc hrr⟩
          simp [Instr.fieldAt, run_underlying hP, hfd', Instr.sureAddr, fieldPlace, hs, hz, Addr.add_lit, Nat.add_assoc]
      · cases hx with
        | ptr _ _ b cs ho hb =>
          refine ⟨_, ?_, .ptr _ _ b cs ho hb⟩
          simp [Instr.fieldAt, run_underlying hP, hfd', Instr.sureAddr, fieldPlace, hs, hz, Addr.add_lit]

theorem fldV_ok {E : Env} (hE : E.ty = ty) (hty : TyOk P ty) {t f : Nat} {x y : V} {v : Value} (h : fldV E t f x = some y) (hx : RV γ S w x v) :
    ∃ u, (Instr.field t v f).run P w = .ok u w ∧ RV γ S w y u := by
  subst hE
  unfold fldV Env.fields at h
  cases ht : E.ty t with
  | none => simp [ht] at h
  | some i =>
    simp only [ht, Option.bind_some] at h
    cases hd : i.desc <;> rw [hd] at h <;> simp only [Option.bind_none, Option.bind_some] at h <;> first | (cases h; done) | skip
    rename_i fs
    cases hf : fs[f]? with
    | none => simp [hf] at h
    | some r =>
      simp only [hf, Option.bind_some] at h
      cases hr : E.ty r.2.1 with
      | none => simp [hr] at h
      | some ti =>
        simp only [hr, Option.bind_some] at h
        obtain ⟨fields, fd, hP, hfd', e1, e2, _⟩ := hty.field ht hd hf
        rw [← e1] at h
        rw [← e2] at hr
        have hs := hty.size hr w
        have ha := hty.isAgg hr w
        have key : ∀ vs : Array Value, (Instr.field t (.agg vs) f).run P w = if ti.desc.isAgg then .ok (.agg (vs.extract fd.offset (fd.offset + ti.size))) w else
            (match vs[fd.offset]? with | some v => .ok v w | none => .halt (.stuck "part: no such cell") w) := by
          intro vs
          cases hag : ti.desc.isAgg <;> rw [hag] at ha <;> simp [Instr.field, run_underlying hP, hfd', asAgg, part, ha, hs]
          cases vs[fd.offset]? <;> rfl
        split at h
        · rename_i cs
          simp only [Option.map_eq_some_iff] at h
          obtain ⟨y', h, rfl⟩ := h
          cases hx with
          | d _ _ hx =>
            cases hx with
            | agg _ vs hl h1 hr' =>
              rw [key]
              unfold pieceD at h
              cases hag : ti.desc.isAgg with
              | true =>
                simp only [hag, if_true] at h
                split at h <;> cases h
                rename_i hle
                refine ⟨_, by simp; rfl, .d _ _ (.agg _ _ (by simp; omega) (fun y hy => ?_) (fun j y v hy hv => ?_))⟩
                · exact h1 y (List.mem_of_mem_drop (List.mem_of_mem_take hy))
                · rw [List.getElem?_take] at hy
                  split at hy
                  · rw [List.getElem?_drop] at hy
                    rw [Array.getElem?_extract] at hv
                    split at hv
                    · exact hr' _ y v hy hv
                    · cases hv
                  · cases hy
              | false =>
                simp only [hag, Bool.false_eq_true, if_false] at h
                have hlt := (List.getElem?_eq_some_iff.1 h).1
                have hv : vs[fd.offset]? = some vs[fd.offset] := by simp [hl ▸ hlt]
                exact ⟨_, by simp only [Bool.false_eq_true, if_false, hv], .d _ _ (hr' _ _ _ h hv)⟩
        · rename_i cs
          cases hx with
          | agg _ vs hl h1 hr' =>
            rw [key]
            unfold pieceV at h
            cases hag : ti.desc.isAgg with
            | true =>
              simp only [hag, if_true] at h
              split at h <;> cases h
              rename_i hle
              refine ⟨_, by simp; rfl, mkAgg_ok (by simp; omega) (fun j v hv => ?_) (fun j y v hy hv => ?_)⟩
              · rw [Array.getElem?_extract] at hv
                split at hv
                · exact h1 _ v hv
                · cases hv
              · rw [List.getElem?_take] at hy
                split at hy
                · rw [List.getElem?_drop] at hy
                  rw [Array.getElem?_extract] at hv
                  split at hv
                  · exact hr' _ y v hy hv
                  · cases hv
                · cases hy
            | false =>
              simp only [hag, Bool.false_eq_true, if_false] at h
              have hlt := (List.getElem?_eq_some_iff.1 h).1
              have hv : vs[fd.offset]? = some vs[fd.offset] := by simp [hl ▸ hlt]
              exact ⟨_, by simp only [Bool.false_eq_true, if_false, hv], hr' _ _ _ h hv⟩
        · cases h
end
end Go.Vm
