/-
  A part of the proof: an abstract run of the program, shown to be what the model does, and what it comes to.
-/
import Derived.Test.YtmfjfejjegemaaaGreatDoorWmO
import Derived.Laws.BytesString
import Derived.Laws.BytesArg
import Derived.Laws.Build
set_option linter.unusedVariables false
set_option linter.unusedSimpArgs false
set_option linter.unnecessarySimpa false
set_option linter.defProp false
set_option linter.unusedSectionVars false
namespace Go.Wm
open Go
variable [GlobReq]
noncomputable section

section
variable {P : Program} {E : Env} (hty : TyOk P E.ty) (hcall : CallOk P E) {γ : Gh} {S : St} {w : World} {T : Tm} {a : Act} {n : Nat}

theorem boolOf_ok {x : V} {b : Bool} {v : Value} (h : boolOf x = some b) (hx : RV γ S w x v) : v = .bool b := by
  unfold boolOf at h
  split at h <;> cases h
  cases hx with
  | d _ _ hx => cases hx; rfl
theorem intOf_ok {x : V} {k : IntKind} {i : Int} {v : Value} (h : intOf x = some (k, i)) (hx : RV γ S w x v) : v = .int k i := by
  unfold intOf at h
  split at h <;> cases h
  cases hx with
  | d _ _ hx => cases hx; rfl

theorem underlying_of {t : Nat} {i : TI} (hty : TyOk P E.ty) (ht : E.ty t = some i) : ∃ d, P.underlying t = some d := by
  have h1 := hty.desc ht
  cases hd : i.desc <;> rw [hd] at h1 <;> simp only [descOk, Bool.and_eq_true] at h1 <;> (try obtain ⟨h1, _⟩ := h1) <;> (split at h1 <;> first | (cases h1; done) | skip) <;> rename_i hu <;> exact ⟨_, hu⟩

theorem RArgs.one {x : V} {vs : Array Value} (h : RArgs γ S w [x] vs) : ∃ u, vs = #[u] ∧ RV γ S w x u := by
  obtain ⟨l⟩ := vs
  obtain ⟨h1, h2⟩ := h
  match l, h1 with
  | [u], _ => exact ⟨u, rfl, h2 0 x u rfl rfl⟩
theorem RArgs.two {x y : V} {vs : Array Value} (h : RArgs γ S w [x, y] vs) : ∃ u v, vs = #[u, v] ∧ RV γ S w x u ∧ RV γ S w y v := by
  obtain ⟨l⟩ := vs
  obtain ⟨h1, h2⟩ := h
  match l, h1 with
  | [u, v], _ => exact ⟨u, v, rfl, h2 0 x u rfl rfl, h2 1 y v rfl rfl⟩

theorem countOf_ok {x : V} {k : Nat} {u : Value} (h : countOf x = some k) (hx : RV γ S w x u) : ∃ a c, u = .slice a k c := by
  unfold countOf at h
  have key : ∀ {xs : List D}, RD γ.fz w (.sl xs) u → ∃ a c, u = .slice a xs.length c := fun h => h.reads.slice
  split at h <;> cases h
  · cases hx with | d _ _ h => exact key h
  · cases hx; exact ⟨_, _, rfl⟩
  · cases hx; exact ⟨_, _, rfl⟩
  · cases hx with | own _ _ _ _ _ _ _ _ h _ _ => exact key h
  · cases hx with | fsl _ _ h => exact key h

theorem lenOf_ok (hty : TyOk P E.ty) (hI : Inv γ S w) {t : Nat} {i : TI} (ht : E.ty t = some i) {x : V} {k : Nat} {u : Value} (h : lenOf S i.desc x = some k) (hx : RV γ S w x u) (tr : TypeId) :
    (Builtin.len_ #[t] tr #[u]).run P w = .ok (.int .i64 k) w := by
  unfold lenOf at h
  split at h
  · rename_i hd
    have hP := hty.desc ht
    rw [hd] at hP
    simp only [descOk] at hP
    split at hP <;> first | (cases hP; done) | skip
    rename_i hP'
    split at h <;> cases h
    cases hx with
    | d _ _ hx =>
      cases hx with
      | str _ s hs =>
        subst hs
        have : s.data.toList.length = s.size := by rw [Array.length_toList]; rfl
        simp [Builtin.len_, run_underlying hP', goInt, this]
  · rename_i n e es hd
    cases h
    have hP := (hty.array ht hd).1
    simp [Builtin.len_, run_underlying hP, goInt]
  · rename_i e es eb hd
    have hP := (hty.slice ht hd).1
    obtain ⟨a, c, rfl⟩ : ∃ a c, u = .slice a k c := by
      split at h
      · rename_i o lo n
        simp only [Option.map_eq_some_iff] at h
        obtain ⟨⟨e0, sz, xs⟩, hr, rfl⟩ := h
        rcases (hx.sl_row hr).2 with ⟨rfl, a, rfl⟩ | ⟨b, cap, cur, _, rfl, _⟩
        · exact ⟨_, _, rfl⟩
        · exact ⟨_, _, rfl⟩
      · exact countOf_ok h hx
    simp [Builtin.len_, run_underlying hP, goInt]
  · rename_i kt et hd
    have hP : P.underlying t = some (.map kt et) := by
      have hP := hty.desc ht
      rw [hd] at hP
      simp only [descOk] at hP
      split at hP <;> first | (cases hP; done) | skip
      rename_i hu
      simp only [beq_iff_eq, Bool.and_eq_true] at hP
      rw [hu, hP.1, hP.2]
    split at h
    · cases h
      cases hx with
      | d _ _ hx => cases hx; simp [Builtin.len_, run_underlying hP, goInt]
    · rename_i o
      split at h <;> cases h
      rename_i kvs ho
      cases hx with
      | mp _ r kvs' ho' hb =>
        obtain ⟨r', es, clock, g1, g2, g3⟩ := hI.obj o _ ho
        rw [hb] at g1
        cases g1
        have hg : (getObj r).run P w = .ok (.map es clock) w := by
          show (Sem.getObj r Sem.pure).run P w = _
          simp only [Sem.run, g2]
        simp [Builtin.len_, run_underlying hP, goInt, hg, g3.1]
    · cases h
  · cases h

theorem maxV_ok {up : Bool} {l : List V} {y : V} {vs : Array Value} (h : maxV up l = some y) (hA : RArgs γ S w l vs) (at_ : Array TypeId) (t : TypeId) :
    ∃ u, (if up then Builtin.max_ at_ t vs else Builtin.min_ at_ t vs).run P w = .ok u w ∧ RV γ S w y u := by
  match l, h with
  | [x], h =>
    obtain ⟨u, rfl, hx⟩ := hA.one
    simp only [maxV, Option.map_eq_some_iff] at h
    obtain ⟨_, _, rfl⟩ := h
    exact ⟨u, by cases up <;> simp [Builtin.max_, Builtin.min_], hx⟩
  | x :: y' :: r, h =>
    cases r with
    | cons z r => simp [maxV] at h
    | nil =>
      obtain ⟨u, v, rfl, hx, hy⟩ := hA.two
      simp only [maxV, List.isEmpty_nil, if_true] at h
      cases ha : intOf x with
      | none => simp [ha] at h
      | some p =>
        cases hb : intOf y' with
        | none => simp [ha, hb] at h
        | some q =>
          obtain ⟨k, i⟩ := p
          obtain ⟨k', j⟩ := q
          simp only [ha, hb, Option.bind_some, Option.some.injEq] at h
          subst h
          rw [intOf_ok ha hx, intOf_ok hb hy]
          refine ⟨_, ?_, .d _ _ (.int k _)⟩
          cases up <;> simp [Builtin.max_, Builtin.min_, Builtin.max2, Builtin.min2]

include hty hcall
theorem evCall_ok (hI : Inv γ S w) (hT : RT n γ S w T a) {at_ : Nat} {c : Call} {o : Oper} (ho : o.op = .call c) {y : V} {W : List (Nat × AObj)} (h : evCall E at_ T S c = some (y, W))
    (hat : ∀ j, j < needs E T (.call c) → S[at_ + j]? = some .dead ∧ γ.mu (at_ + j) = none) {K : Act → World → Prop} {Q : Exit → Act → World → Prop}
    (hK : ∀ u γ' w', Inv γ' (applyW S W) w' → Ext S.length γ S w γ' (applyW S W) w' → RV γ' (applyW S W) w' y u → K (a.put o.dst u) w') : o.wp P a w K Q := by
  unfold evCall at h
  cases hargs : evs T c.args.toList with
  | none => simp [hargs] at h
  | some args =>
    simp only [hargs, Option.bind_some] at h
    have hA := RArgs.of_evs hT hargs
    have enter : ∀ (g : Nat) (vs : Array Value), (execOp a.eval o).run P w = (callFunc g vs).run P w →
        (Enters P g ∧ Calls P g vs w fun e w' => ∃ u γ', e = .returned u ∧ Inv γ' (applyW S W) w' ∧ Ext S.length γ S w γ' (applyW S W) w' ∧ RV γ' (applyW S W) w' y u) → o.wp P a w K Q := fun g vs h1 ⟨h2, h3⟩ => by
      unfold Oper.wp
      rw [h1, h2 vs w, Oper.upon_enter]
      refine h3.mono ?_
      rintro e w' ⟨u, γ', rfl, g1, g2, g3⟩
      exact hK u γ' w' g1 g2 g3
    cases hc : c.callee with
    | invoke r m => simp [hc] at h
    | value f =>
      simp only [hc] at h
      cases hf : ev T f with
      | none => simp [hf] at h
      | some fv =>
        simp only [hf, Option.bind_some] at h
        have hfr := ev_ok hT hf
        split at h
        · rename_i g
          have hat' : ∀ j, j < E.news g → S[at_ + j]? = some .dead ∧ γ.mu (at_ + j) = none := fun j hj => hat j (by simp [needs, hc, hf]; exact hj)
          refine enter g (c.args.map a.eval) ?_ (callFn_ok hcall hI h hat' hA)
          cases hfv : a.eval f with
          | func fn first cap =>
            rw [hfv] at hfr
            cases hfr with
            | d _ _ hfr =>
              cases hfr
              simp [execOp, ho, resolve, hc, hfv, Deferred.ofValue, invoke]
          | _ => rw [hfv] at hfr; cases hfr with | d _ _ hfr => cases hfr
        · rename_i g first cap
          have hat' : ∀ j, j < E.news g → S[at_ + j]? = some .dead ∧ γ.mu (at_ + j) = none := fun j hj => hat j (by simp [needs, hc, hf]; exact hj)
          cases hfv : a.eval f with
          | func fn vf vc =>
            rw [hfv] at hfr
            cases hfr with
            | fn _ _ _ _ _ h1 h2 hff hcc =>
              have hA' : RArgs γ S w (first ++ args ++ cap) (vf ++ c.args.map a.eval ++ vc) := (RArgs.append (RArgs.append ⟨h1, hff⟩ hA) ⟨h2, hcc⟩)
              refine enter g (vf ++ c.args.map a.eval ++ vc) ?_ (callFn_ok hcall hI h hat' hA')
              simp [execOp, ho, resolve, hc, hfv, Deferred.ofValue, invoke]
          | _ => rw [hfv] at hfr; cases hfr
        · cases h
    | builtin b =>
      simp only [hc] at h
      have hrun : (execOp a.eval o).run P w = (builtin b c.argTypes o.type (c.args.map fun | .const _ => true | _ => false) (c.args.map a.eval)).run P w := by
        simp only [execOp, ho, resolve, hc]
        rfl
      have done : ∀ (v : V) (u : Value), (y, W) = (v, []) → (builtin b c.argTypes o.type (c.args.map fun | .const _ => true | _ => false) (c.args.map a.eval)).run P w = .ok (.value u) w → RV γ S w v u → o.wp P a w K Q := fun v u e h1 h2 => by
        cases e
        exact wp_value (hrun.trans h1) (hK u γ w hI (Ext.refl (Nat.le_refl _)) h2)
      split at h
      · -- len
        rename_i x
        split at h <;> first | (cases h; done) | skip
        rename_i t htt
        cases ht : E.ty t with
        | none => simp [ht] at h
        | some i =>
          simp only [ht, Option.bind_some, Option.map_eq_some_iff] at h
          obtain ⟨k, hl, hr⟩ := h
          cases hr
          obtain ⟨u, hu, hx⟩ := hA.one
          have hat1 : c.argTypes = #[t] := by apply Array.ext'; simpa using htt
          refine done _ (.int .i64 k) rfl ?_ (.d _ _ (.int _ _))
          simp [builtin, hu, hat1, lenOf_ok hty hI ht hl hx]
      · -- append
        rename_i x y'
        split at h <;> first | (cases h; done) | skip
        rename_i t t' htt
        split at h <;> first | (cases h; done) | skip
        rename_i htt'
        subst htt'
        obtain ⟨u, v, hu, hx, hy⟩ := hA.two
        have hat2 : c.argTypes = #[t', t'] := by apply Array.ext'; simpa using htt
        obtain ⟨z, γ', w', h1, h2, h3, h4⟩ := appendV_ok (tr := o.type) hty hI rfl (fun hown => by
            have h0 : needs E T (.call c) = 1 := by
              have he : (c.args.toList.head?).bind (ev T) = some x := by
                cases hl : c.args.toList with
                | nil => rw [hl] at hargs; simp [evs] at hargs
                | cons x0 r0 =>
                  rw [hl] at hargs
                  simp only [evs] at hargs
                  cases hx0 : ev T x0 with
                  | none => simp [hx0] at hargs
                  | some v0 =>
                    simp only [hx0, Option.bind_some, Option.map_eq_some_iff] at hargs
                    obtain ⟨_, _, hh⟩ := hargs
                    simp only [List.cons.injEq] at hh
                    simp [hx0, hh.1]
              simp only [needs, hc, he]
              split
              · rename_i p q hh
                exact absurd (Option.some.inj hh) (hown p q)
              · rfl
            exact hat 0 (by omega)) h hx hy
        refine wp_value (u := z) (w' := w') (hrun.trans ?_) (hK z γ' w' h2 h3 h4)
        simp [builtin, hu, hat2, h1]
      · -- clear
        rename_i x
        split at h <;> first | (cases h; done) | skip
        rename_i t htt
        cases hes : E.elem t with
        | none => simp [hes] at h
        | some es =>
          simp only [hes, Option.bind_some, Option.map_eq_some_iff] at h
          obtain ⟨W', h, hr⟩ := h
          cases hr
          obtain ⟨u, hu, hx⟩ := hA.one
          have hat1 : c.argTypes = #[t] := by apply Array.ext'; simpa using htt
          obtain ⟨w', h1, h2, h3⟩ := clearV_ok hty hI rfl h hx (by rw [hes]; simp) o.type
          refine wp_value (u := .tuple #[]) (w' := w') (hrun.trans ?_) (hK _ γ w' h2 h3 (.tup [] _ rfl fun j y v hy => by simp at hy))
          simp [builtin, hu, hat1, h1]
      · rename_i l
        simp only [Option.map_eq_some_iff] at h
        obtain ⟨v, h, hr⟩ := h
        cases hr
        obtain ⟨u, h1, h2⟩ := maxV_ok (P := P) h hA c.argTypes o.type
        exact done _ u rfl (by simp only [if_true] at h1; simp [builtin, h1]) h2
      · rename_i l
        simp only [Option.map_eq_some_iff] at h
        obtain ⟨v, h, hr⟩ := h
        cases hr
        obtain ⟨u, h1, h2⟩ := maxV_ok (P := P) h hA c.argTypes o.type
        exact done _ u rfl (by simp only [Bool.false_eq_true, if_false] at h1; simp [builtin, h1]) h2
      · cases h
omit hty hcall
theorem nilV_ok {x y : V} {v : Value} (h : nilV x = some y) (hx : RV γ S w x v) :
    x = y ∧ ((∃ p, v = .pointer (some p)) ∨ ∃ f p q, v = .func (.func f) p q) := by
  unfold nilV at h
  split at h <;> cases h
  · cases hx; exact ⟨rfl, .inl ⟨_, rfl⟩⟩
  · cases hx; exact ⟨rfl, .inl ⟨_, rfl⟩⟩
  · cases hx; exact ⟨rfl, .inl ⟨_, rfl⟩⟩
  · cases hx; exact ⟨rfl, .inr ⟨_, _, _, rfl⟩⟩
  · cases hx with
    | d _ _ hx => cases hx; exact ⟨rfl, .inr ⟨_, _, _, rfl⟩⟩

theorem unV_ok {op : UnOp} {x : V} {r : D} {v : Value} (h : unV op x = some r) (hx : RV γ S w x v) : ∃ u, (Op.unary op v).run P w = .ok u w ∧ RD γ.fz w r u := by
  unfold unV at h
  split at h
  · cases hx with
    | d _ _ hx =>
      cases hx
      split at h <;> cases h
      exact ⟨_, by simp only [Op.unary, Sem.run_pure], .bool _⟩
  · cases hx with
    | d _ _ hx =>
      cases hx
      split at h <;> cases h
      exact ⟨_, by simp only [Op.unary, Op.intArith, Sem.run_pure], .int _ _⟩
  · cases h

theorem extractV_ok {k : Nat} {x y : V} {v : Value} (h : extractV k x = some y) (hx : RV γ S w x v) : ∃ u, (Instr.extract v k).run P w = .ok u w ∧ RV γ S w y u := by
  unfold extractV at h
  split at h
  · cases hx with
    | tup _ vs hl hr =>
      have hk := (List.getElem?_eq_some_iff.1 h).1
      have hv : vs[k]? = some (vs[k]'(by omega)) := Array.getElem?_eq_getElem _
      exact ⟨_, by simp only [Instr.extract, hv]; rfl, hr k y _ h hv⟩
  · cases h

theorem bytesOf_ok {fz : Nat → Nat → Prop} {w : World} : ∀ {xs : List D} {l : List UInt8}, bytesOf xs = some l → ∃ ns : List Int, xs = ns.map (D.int .u8) ∧ l = ns.map fun n => UInt8.ofNat n.toNat
  | [], l, h => by simp only [bytesOf, Option.some.injEq] at h; subst h; exact ⟨[], rfl, rfl⟩
  | x :: r, l, h => by
    unfold bytesOf at h
    split at h
    · rename_i h'; cases h'
    · rename_i n r' h'
      cases h'
      simp only [Option.map_eq_some_iff] at h
      obtain ⟨l', h, rfl⟩ := h
      obtain ⟨ns, h1, h2⟩ := bytesOf_ok (fz := fz) (w := w) h
      exact ⟨n :: ns, by simp [h1], by simp [h2]⟩
    · cases h

include hty
theorem convV_ok (hI : Inv γ S w) {s d : Nat} {x y : V} {v : Value} (h : convV E S s d x = some y) (hx : RV γ S w x v) : ∃ u, (Go.convert s d v).run P w = .ok u w ∧ RV γ S w y u := by
  unfold convV at h
  cases hs : E.ty s with
  | none => simp [hs] at h
  | some i =>
    cases hd : E.ty d with
    | none => simp [hs, hd] at h
    | some j =>
      simp only [hs, hd, Option.bind_some] at h
      obtain ⟨ds, hds⟩ := underlying_of hty hs
      split at h
      · rename_i k hdd
        split at h <;> first | (cases h; done) | skip
        rename_i m
        cases h
        have hP := hty.int hd hdd
        cases hx with
        | d _ _ hx =>
          cases hx
          refine ⟨.int k (k.wrap m), ?_, .d _ _ (.int _ _)⟩
          simp only [Go.convert, Sem.run_bind, run_underlying hds, run_underlying hP, Result.andThen_ok]
          rfl
      · rename_i hdd
        have hP := hty.desc hd
        rw [hdd] at hP
        simp only [descOk] at hP
        split at hP <;> first | (cases hP; done) | skip
        rename_i hP'
        split at h
        · cases h
          cases hx with
          | d _ _ hx =>
            cases hx with
            | str _ b hb =>
              refine ⟨.string b, ?_, .d _ _ (.str _ _ hb)⟩
              simp only [Go.convert, Sem.run_bind, run_underlying hds, run_underlying hP', Result.andThen_ok]
              rfl
        unfold convB at h
        split at h <;> first | (cases h; done) | skip
        rename_i e eb hsd
        cases he : E.ty e with
        | none => simp [he] at h
        | some ei =>
          simp only [he, Option.bind_some] at h
          split at h <;> first | (cases h; done) | skip
          rename_i hei
          cases hso : sliceOf S x with
          | none => simp [hso] at h
          | some xs =>
            simp only [hso, Option.bind_some, Option.map_eq_some_iff] at h
            obtain ⟨l, hl, rfl⟩ := h
            obtain ⟨ns, rfl, rfl⟩ := bytesOf_ok (fz := γ.fz) (w := w) hl
            have hPs := (hty.slice hs hsd).1
            have hPe := hty.int he hei
            have hr := sliceOf_reads hI hso hx
            obtain ⟨a, cap, rfl⟩ := hr.slice
            rw [run_convert_bytes_string w s d e a _ cap hPs hPe hP']
            by_cases hns : ns = []
            · subst hns
              cases a with
              | none => exact ⟨.string .empty, by simp [Conv.bytesToString], .d _ _ (.str _ _ rfl)⟩
              | some a =>
                have hlc : (loadCells a 0).run P w = .ok (([] : List Int).map (Value.int .u8)).toArray w := by simp [loadCells, loadCellsFrom]
                have := run_bytesToString (P := P) w a 0 cap [] hlc
                exact ⟨_, this, .d _ _ (.str _ _ rfl)⟩
            · obtain ⟨us, h1, h2, _, a', c, h3, h4⟩ := hr.at (es := 1) (fun y hy => by
                obtain ⟨m, _, rfl⟩ := List.mem_map.1 hy
                rfl) (by simpa using hns)
              cases h3
              have hcell : ∀ j, j < ns.length → w.cell? (a'.add j) = some (Value.int .u8 (ns.getD j 0)) := fun j hj => by
                have hx : (ns.map (D.int .u8))[j]? = some (D.int .u8 ns[j]) := by simp [hj]
                have hrd := h2 j 0 _ (D.int .u8 ns[j]) hx rfl
                have hfl := flat_get us (n := (ns.map (D.int .u8)).length) (sz := 1) (i := j) (j := 0) (by simpa using hj) (by omega)
                rw [Nat.mul_one, Nat.add_zero] at hfl
                have := h4 j _ hfl
                rw [this]
                generalize us j 0 = q at hrd
                cases hrd
                simp [hj]
              have hlc : (loadCells a' ns.length).run P w = .ok (ns.map (Value.int .u8)).toArray w := by
                rw [run_loadCells w a' _ (fun j => Value.int .u8 (ns.getD j 0)) hcell]
                congr 1
                apply Array.ext'
                apply List.ext_getElem?
                intro j
                by_cases hj : j < ns.length
                · simp [hj, List.getElem?_range]
                · rw [List.getElem?_eq_none (by simp; omega), List.getElem?_eq_none (by simp; omega)]
              have := run_bytesToString (P := P) w a' _ cap ns hlc
              simp only [List.length_map]
              refine ⟨_, this, .d _ _ (.str _ _ ?_)⟩
              rw [foldl_push_bytes]
              simp
      · cases h

theorem indexV_ok {t : Nat} {x y z : V} {v u : Value} (h : indexV E t x y = some z) (hx : RV γ S w x v) (hy : RV γ S w y u) : ∃ r, (Instr.index t v u).run P w = .ok r w ∧ RV γ S w z r := by
  unfold indexV at h
  cases ht : E.ty t with
  | none => simp [ht] at h
  | some i =>
    cases hk : intOf y with
    | none => simp [ht, hk] at h
    | some k =>
      simp only [ht, hk, Option.bind_some] at h
      rw [intOf_ok hk hy]
      split at h
      · rename_i s hd
        have hP := hty.desc ht
        rw [hd] at hP
        simp only [descOk] at hP
        split at hP <;> first | (cases hP; done) | skip
        rename_i hP'
        split at h <;> first | (cases h; done) | skip
        split at h <;> first | (cases h; done) | skip
        rename_i h0 h1
        simp only [Option.map_eq_some_iff] at h
        obtain ⟨b, hb, rfl⟩ := h
        cases hx with
        | d _ _ hx =>
          cases hx with
          | str _ s' hs =>
            subst hs
            have hsz : s'.data.toList.length = s'.size := by rw [Array.length_toList]; rfl
            rw [hsz] at h1
            have hb' : s'[k.2.toNat]? = some b := by
              have hlt : k.2.toNat < s'.size := by omega
              have e1 : s'[k.2.toNat]? = some (s'[k.2.toNat]'hlt) := by simp [hlt]
              rw [e1]
              rw [← hb]
              have h2 : k.2.toNat < s'.data.toList.length := by omega
              rw [List.getElem?_eq_getElem h2]
              rfl
            refine ⟨_, ?_, .d _ _ (.int _ _)⟩
            simp [Instr.index, asIntOf, run_underlying hP', h0, hb']
      · rename_i n e s cs hd
        cases he : E.ty e with
        | none => simp [he] at h
        | some ei =>
          simp only [he, Option.bind_some] at h
          split at h <;> first | (cases h; done) | skip
          split at h <;> first | (cases h; done) | skip
          split at h <;> first | (cases h; done) | skip
          rename_i hes h0 h1
          simp only [Option.map_eq_some_iff] at h
          obtain ⟨z', h, rfl⟩ := h
          obtain ⟨hP, hse⟩ := hty.array ht hd
          cases hx with
          | d _ _ hx =>
            have hx0 := hx
            cases hx with
            | agg _ vs hl h1' hr' =>
              obtain ⟨u', g1, g2⟩ := partD_ok hty he h hx0
              refine ⟨u', ?_, .d _ _ g2⟩
              have := hse w
              simp [Instr.index, asIntOf, run_underlying hP, h0, h1, this, asAgg, g1]
      · cases h

include hcall
theorem evOp_ok (hI : Inv γ S w) (hT : RT n γ S w T a) {at_ : Nat} {o : Oper} {y : V} {W : List (Nat × AObj)} (h : evOp E at_ T S o.op = some (y, W))
    (hat : ∀ j, j < needs E T o.op → S[at_ + j]? = some .dead ∧ γ.mu (at_ + j) = none) {K : Act → World → Prop} {Q : Exit → Act → World → Prop}
    (hK : ∀ u γ' w', Inv γ' (applyW S W) w' → Ext S.length γ S w γ' (applyW S W) w' → RV γ' (applyW S W) w' y u → K (a.put o.dst u) w') : o.wp P a w K Q := by
  have done : ∀ (u : Value), W = [] → (execOp a.eval o).run P w = .ok (.value u) w → RV γ S w y u → o.wp P a w K Q := fun u e h1 h2 => by
    subst e
    exact wp_value h1 (hK u γ w hI (Ext.refl (Nat.le_refl _)) h2)
  have put : ∀ (p : Nat × AObj) (u : Value) (γ' : Gh) (w' : World), W = [p] → (execOp a.eval o).run P w = .ok (.value u) w' → Inv γ' (S.set p.1 p.2) w' → Ext S.length γ S w γ' (S.set p.1 p.2) w' → RV γ' (S.set p.1 p.2) w' y u → o.wp P a w K Q :=
    fun p u γ' w' e h1 h2 h3 h4 => by
      subst e
      exact wp_value h1 (hK u γ' w' h2 h3 h4)
  cases hop : o.op <;> rw [hop] at h hat <;> simp only [evOp] at h <;> first | (cases h; done) | skip
  case move x =>
    simp only [Option.map_eq_some_iff, Prod.mk.injEq] at h
    obtain ⟨v, h, rfl, rfl⟩ := h
    exact done _ rfl (by simp only [execOp, hop]; rfl) (ev_ok hT h)
  case assign x =>
    simp only [Option.map_eq_some_iff, Prod.mk.injEq] at h
    obtain ⟨v, h, rfl, rfl⟩ := h
    exact done _ rfl (by simp only [execOp, hop]; rfl) (ev_ok hT h)
  case pick c x z =>
    cases hc : ev T c with
    | none => simp [hc] at h
    | some vc =>
      cases hb : boolOf vc with
      | none => simp [hc, hb] at h
      | some t =>
        simp only [hc, hb, Option.bind_some, Option.map_eq_some_iff, Prod.mk.injEq] at h
        obtain ⟨v, h, rfl, rfl⟩ := h
        have e := boolOf_ok hb (ev_ok hT hc)
        cases t with
        | true => exact done (a.eval x) rfl (by simp [execOp, hop, e, asBool]) (ev_ok hT (by simpa using h))
        | false => exact done (a.eval z) rfl (by simp [execOp, hop, e, asBool]) (ev_ok hT (by simpa using h))
  case alloc t =>
    simp only [Option.map_eq_some_iff, Prod.mk.injEq] at h
    obtain ⟨i, ht, rfl, rfl⟩ := h
    obtain ⟨g1, g2⟩ := hat 0 (by simp [needs])
    obtain ⟨u, γ', w', h1, h2, h3, h4⟩ := alloc_ok hty hI g1 g2 ht
    exact put _ u γ' w' rfl (by simp [execOp, hop, h1]) h2 h3 h4
  case box t x =>
    cases hx : ev T x with
    | none => simp [hx] at h
    | some v =>
      simp only [hx, Option.bind_some] at h
      split at h <;> cases h
      rename_i hb
      obtain ⟨g1, g2⟩ := hat 0 (by simp [needs])
      obtain ⟨u, γ', w', h1, h2, h3, h4⟩ := box_ok (P := P) (t := t) hI g1 g2 (ev_ok hT hx) hb
      exact put _ u γ' w' rfl (by simp [execOp, hop, h1]) h2 h3 h4
  case build t ps =>
    cases hp : evParts T ps.toList with
    | none => simp [hp] at h
    | some l =>
      simp only [hp, Option.bind_some, Option.map_eq_some_iff, Prod.mk.injEq] at h
      obtain ⟨v, h, rfl, rfl⟩ := h
      obtain ⟨h1, h2⟩ := evParts_ok hT hp
      obtain ⟨u, g1, g2⟩ := buildV_ok (ps := ps.map fun (i, x) => (i, a.eval x)) hty (γ := γ) (S := S) (w := w) rfl h (by
        rw [h1]; simp) (fun j x u hx hu => by
        obtain ⟨z, hz, hr⟩ := h2 j x hx
        have : (ps.map fun (i, x) => (i, a.eval x)).toList[j]? = some (z.1, a.eval z.2) := by simp only [Array.toList_map, List.getElem?_map, hz, Option.map_some]
        rw [this] at hu
        cases hu
        exact hr)
      exact done u rfl (by simp [execOp, hop, g1]) g2
  case buildSlice t k ps =>
    cases hp : evParts T ps.toList with
    | none => simp [hp] at h
    | some l =>
      simp only [hp, Option.bind_some] at h
      obtain ⟨h1, h2⟩ := evParts_ok hT hp
      obtain ⟨u, γ', w', g1, g2, g3, g4⟩ := buildSliceV_ok (ps := ps.map fun (i, x) => (i, a.eval x)) hty hI (fun hr => hat 0 (by simp [needs, hr])) rfl h (by
        rw [h1]; simp) (fun j x u hx hu => by
        obtain ⟨z, hz, hr⟩ := h2 j x hx
        have : (ps.map fun (i, x) => (i, a.eval x)).toList[j]? = some (z.1, a.eval z.2) := by simp only [Array.toList_map, List.getElem?_map, hz, Option.map_some]
        rw [this] at hu
        cases hu
        exact hr)
      exact wp_value (u := u) (by simp [execOp, hop, g1]) (hK u γ' w' g2 g3 g4)
  case load t x =>
    cases hx : ev T x with
    | none => simp [hx] at h
    | some v =>
      simp only [hx, Option.bind_some, Option.map_eq_some_iff, Prod.mk.injEq] at h
      obtain ⟨v', h, rfl, rfl⟩ := h
      obtain ⟨u, g1, g2⟩ := ldV_ok hty hI rfl h (ev_ok hT hx)
      exact done u rfl (by simp [execOp, hop, g1]) g2
  case store t x z =>
    cases hx : ev T x with
    | none => simp [hx] at h
    | some v =>
      cases hz : ev T z with
      | none => simp [hx, hz] at h
      | some v2 =>
        simp only [hx, hz, Option.bind_some, Option.map_eq_some_iff, Prod.mk.injEq] at h
        obtain ⟨p, h, rfl, rfl⟩ := h
        obtain ⟨w', g1, g2, g3⟩ := stV_ok hty hI rfl h (ev_ok hT hx) (ev_ok hT hz)
        unfold Oper.wp
        have : (execOp a.eval o).run P w = .ok .skip w' := by simp [execOp, hop, g1]
        rw [this, Oper.upon_skip]
        exact hK undef γ w' g2 g3 (.any _)
  case nilCheck x =>
    cases hx : ev T x with
    | none => simp [hx] at h
    | some v =>
      simp only [hx, Option.bind_some, Option.map_eq_some_iff, Prod.mk.injEq] at h
      obtain ⟨v', h, rfl, rfl⟩ := h
      have hr := ev_ok hT hx
      obtain ⟨rfl, hv⟩ := nilV_ok h hr
      refine done _ rfl ?_ hr
      rcases hv with ⟨p, hv⟩ | ⟨f, p, q, hv⟩ <;> simp [execOp, hop, hv]
  case binOp op t x z t2 =>
    cases hx : ev T x with
    | none => simp [hx] at h
    | some v =>
      cases hz : ev T z with
      | none => simp [hx, hz] at h
      | some v2 =>
        simp only [hx, hz, Option.bind_some, Option.map_eq_some_iff, Prod.mk.injEq] at h
        obtain ⟨r, h, rfl, rfl⟩ := h
        obtain ⟨u, g1, g2⟩ := binV_ok hty rfl h (ev_ok hT hx) (ev_ok hT hz) x z (fun hc => by
          simp only [Bool.or_eq_true] at hc
          refine hc.imp (fun h => ?_) (fun h => ?_)
          · cases x <;> first | rfl | (cases h)
          · cases z <;> first | rfl | (cases h))
        refine done u rfl ?_ (.d _ _ g2)
        have e : (execOp a.eval o) = (do pure (.value (← ((eqGuard op t x z (a.eval x) (a.eval z)).bind fun _ => Go.binOp op t (a.eval x) (a.eval z))))) := by
          simp only [execOp, hop]
          rfl
        rw [e]
        simp [g1]
  case unOp op t x =>
    cases hx : ev T x with
    | none => simp [hx] at h
    | some v =>
      simp only [hx, Option.bind_some, Option.map_eq_some_iff, Prod.mk.injEq] at h
      obtain ⟨r, h, rfl, rfl⟩ := h
      obtain ⟨u, g1, g2⟩ := unV_ok (P := P) h (ev_ok hT hx)
      exact done u rfl (by simp [execOp, hop, g1]) (.d _ _ g2)
  case convert s d x =>
    cases hx : ev T x with
    | none => simp [hx] at h
    | some v =>
      simp only [hx, Option.bind_some, Option.map_eq_some_iff, Prod.mk.injEq] at h
      obtain ⟨r, h, rfl, rfl⟩ := h
      obtain ⟨u, g1, g2⟩ := convV_ok hty hI h (ev_ok hT hx)
      exact done u rfl (by simp [execOp, hop, g1]) g2
  case makeFunc f p q =>
    cases hp : evs T p.toList with
    | none => simp [hp] at h
    | some vp =>
      cases hq : evs T q.toList with
      | none => simp [hp, hq] at h
      | some vq =>
        simp only [hp, hq, Option.bind_some, Option.map_some, Option.some.injEq, Prod.mk.injEq] at h
        obtain ⟨rfl, rfl⟩ := h
        have h1 := RArgs.of_evs hT hp
        have h2 := RArgs.of_evs hT hq
        refine done (.func f (p.map a.eval) (q.map a.eval)) rfl (by simp [execOp, hop, Instr.makeFunc]) ?_
        unfold fnV
        split
        · rename_i he
          simp only [Bool.and_eq_true, List.isEmpty_iff] at he
          obtain ⟨rfl, rfl⟩ := he
          have e1 : p.map a.eval = #[] := Array.eq_empty_of_size_eq_zero (by simpa using h1.1)
          have e2 : q.map a.eval = #[] := Array.eq_empty_of_size_eq_zero (by simpa using h2.1)
          rw [e1, e2]
          exact .d _ _ (.fn f)
        · exact .fn f vp vq _ _ h1.1 h2.1 h1.2 h2.2
  case slice t x lo hi mx =>
    cases hx : ev T x with
    | none => simp [hx] at h
    | some v =>
      cases hlo : evO T lo with
      | none => simp [hx, hlo] at h
      | some vlo =>
        cases hhi : evO T hi with
        | none => simp [hx, hlo, hhi] at h
        | some vhi =>
          cases hmx : evO T mx with
          | none => simp [hx, hlo, hhi, hmx] at h
          | some vmx =>
            simp only [hx, hlo, hhi, hmx, Option.bind_some] at h
            have key : ∀ {l : Option Operand} {vl : Option V}, evO T l = some vl → (∀ z, vl = some z → ∃ u, l.map a.eval = some u ∧ RV γ S w z u) ∧ (vl = none → l.map a.eval = none) := by
              intro l vl hl
              cases l with
              | none => simp [evO] at hl; subst hl; exact ⟨(fun z h => by cases h), fun _ => rfl⟩
              | some x =>
                simp only [evO, Option.map_eq_some_iff] at hl
                obtain ⟨y, hy, rfl⟩ := hl
                exact ⟨(fun z h => by cases h; exact ⟨_, rfl, ev_ok hT hy⟩), fun h => by cases h⟩
            obtain ⟨u, γ', g1, g2, g3, g4⟩ := sliceV_ok hty (γ := γ) (S := S) (w := w) hI rfl h (ev_ok hT hx) (key hlo).1 (key hlo).2 (key hhi).1 (key hhi).2 (key hmx).1 (key hmx).2
            exact wp_value (u := u) (by simp [execOp, hop, g1]) (hK u γ' w g2 g3 g4)
  case makeInterface t x =>
    cases ht : E.ty t with
    | none => simp [ht] at h
    | some i =>
      simp only [ht, Option.bind_some] at h
      have hdesc := hty.desc ht
      have hrun : (Instr.makeInterface t (a.eval x)).run P w = .ok (.iface t (a.eval x)) w := by
        cases hd : i.desc <;> rw [hd] at h hdesc <;> simp only [descOk, Bool.and_eq_true] at hdesc <;> (try (obtain ⟨hdesc, _⟩ := hdesc)) <;> first | (cases h; done) | skip
        all_goals
          split at hdesc <;> first | (cases hdesc; done) | skip
          rename_i hu
          simp [Instr.makeInterface, run_underlying hu]
      have hyw : y = .d .err ∧ W = [] := by
        split at h <;> first | (cases h; done) | skip
        simp only [Option.some.injEq, Prod.mk.injEq] at h
        exact ⟨h.1.symm, h.2.symm⟩
      obtain ⟨rfl, rfl⟩ := hyw
      exact done (.iface t (a.eval x)) rfl (by simp [execOp, hop, hrun]) (.d _ _ (.err _ _))
  case makeSlice t n c =>
    cases hn : ev T n with
    | none => simp [hn] at h
    | some vn =>
      cases hc : ev T c with
      | none => simp [hn, hc] at h
      | some vc =>
        simp only [hn, hc, Option.bind_some, Option.map_eq_some_iff, Prod.mk.injEq] at h
        obtain ⟨p, h, rfl, rfl⟩ := h
        obtain ⟨g1, g2⟩ := hat 0 (by simp [needs])
        obtain ⟨u, γ', w', h1, h2, h3, h4⟩ := makeSliceV_ok hty hI g1 g2 rfl h (ev_ok hT hn) (ev_ok hT hc)
        exact put _ u γ' w' rfl (by simp [execOp, hop, h1]) h2 h3 h4
  case fieldAddr t x f =>
    cases hx : ev T x with
    | none => simp [hx] at h
    | some v =>
      simp only [hx, Option.bind_some, Option.map_eq_some_iff, Prod.mk.injEq] at h
      obtain ⟨r, h, rfl, rfl⟩ := h
      obtain ⟨u, g1, g2⟩ := fldA_ok rfl hty h (ev_ok hT hx)
      exact done u rfl (by simp [execOp, hop, g1]) g2
  case field t x f =>
    cases hx : ev T x with
    | none => simp [hx] at h
    | some v =>
      simp only [hx, Option.bind_some, Option.map_eq_some_iff, Prod.mk.injEq] at h
      obtain ⟨r, h, rfl, rfl⟩ := h
      obtain ⟨u, g1, g2⟩ := fldV_ok rfl hty h (ev_ok hT hx)
      exact done u rfl (by simp [execOp, hop, g1]) g2
  case indexAddr t x i =>
    cases hx : ev T x with
    | none => simp [hx] at h
    | some v =>
      cases hi : ev T i with
      | none => simp [hx, hi] at h
      | some vi =>
        cases hk : intOf vi with
        | none => simp [hx, hi, hk] at h
        | some k =>
          obtain ⟨kk, k⟩ := k
          simp only [hx, hi, hk, Option.bind_some, Option.map_eq_some_iff, Prod.mk.injEq] at h
          obtain ⟨r, h, rfl, rfl⟩ := h
          obtain ⟨u, g1, g2⟩ := idxA_ok hty (k := kk) rfl h (ev_ok hT hx)
          have e := intOf_ok hk (ev_ok hT hi)
          exact done u rfl (by simp [execOp, hop, e, g1]) g2
  case index t x i =>
    cases hx : ev T x with
    | none => simp [hx] at h
    | some v =>
      cases hi : ev T i with
      | none => simp [hx, hi] at h
      | some vi =>
        simp only [hx, hi, Option.bind_some, Option.map_eq_some_iff, Prod.mk.injEq] at h
        obtain ⟨r, h, rfl, rfl⟩ := h
        obtain ⟨u, g1, g2⟩ := indexV_ok hty h (ev_ok hT hx) (ev_ok hT hi)
        exact done u rfl (by simp [execOp, hop, g1]) g2
  case extract x k =>
    cases hx : ev T x with
    | none => simp [hx] at h
    | some v =>
      simp only [hx, Option.bind_some, Option.map_eq_some_iff, Prod.mk.injEq] at h
      obtain ⟨r, h, rfl, rfl⟩ := h
      obtain ⟨u, g1, g2⟩ := extractV_ok (P := P) h (ev_ok hT hx)
      exact done u rfl (by simp [execOp, hop, g1]) g2
  case call c => exact evCall_ok hty hcall hI hT hop h hat hK
end
end
end Go.Wm
