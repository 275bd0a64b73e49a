/-
  A part of the proof: an abstract run of the program, shown to be what the model does, and what it comes to.
-/
import Derived.Test.YtmfjfejjegemaaaGreatDoorWmP
import Derived.Orders
set_option linter.unusedVariables false
set_option linter.unusedSimpArgs false
set_option linter.unnecessarySimpa false
set_option linter.defProp false
set_option linter.unusedSectionVars false
namespace Go.Wm
open Go
variable [GlobReq]
noncomputable section

/-! ## regions -/
def padS (S : St) (n : Nat) : St := S ++ List.replicate n .dead
/-- what is known of a guard: its answer; that it has none; nothing -/
def guardV : V → Option (Option Bool)
  | .d (.bool b) => some (some b)
  | .und => some none
  | _ => none
def guardOf (ops : Array Oper) (T : Tm) (j : Nat) : Option (Option Bool) :=
  match (ops[j]?).bind (·.dst) with
  | some d => guardV (T.get d)
  | none => none
def evOps (E : Env) (ops : Array Oper) : List Oper → Tm → St → Option (Tm × St)
  | [], T, S => some (T, S)
  | o :: os, T, S =>
    match o.guard with
    | none => (evOp E S.length T (padS S (needs E T o.op)) o.op).bind fun r => evOps E ops os (T.put o.dst r.1) (applyW (padS S (needs E T o.op)) r.2)
    | some (j, want) => (guardOf ops T j).bind fun b =>
        if b = some want then (evOp E S.length T (padS S (needs E T o.op)) o.op).bind fun r => evOps E ops os (T.put o.dst r.1) (applyW (padS S (needs E T o.op)) r.2)
        else evOps E ops os (T.put o.dst .und) S

section
variable {P : Program} {E : Env} (hty : TyOk P E.ty) (hcall : CallOk P E)

theorem pad_ok {γ : Gh} {S : St} {w : World} (hI : Inv γ S w) : ∀ n, ∃ γ', Inv γ' (padS S n) w ∧ Ext S.length γ S w γ' (padS S n) w ∧ ∀ j, j < n → (padS S n)[S.length + j]? = some .dead ∧ γ'.mu (S.length + j) = none := by
  intro n
  induction n with
  | zero => exact ⟨γ, by simpa [padS] using hI, by simpa [padS] using Ext.refl (Nat.le_refl _), fun j hj => by omega⟩
  | succ n ih =>
    obtain ⟨γ', h1, h2, h3⟩ := ih
    obtain ⟨g1, g2, g3⟩ := more_dead h1
    have hl : (padS S n).length = S.length + n := by simp [padS]
    have e : padS S (n + 1) = padS S n ++ [.dead] := by simp [padS, List.replicate_succ']
    rw [e]
    refine ⟨_, g1, h2.trans (g2.less (by omega)), fun j hj => ?_⟩
    by_cases hjn : j < n
    · obtain ⟨k1, k2⟩ := h3 j hjn
      refine ⟨by rw [List.getElem?_append_left (by omega)]; exact k1, ?_⟩
      simp only [Gh.at, hl]
      rw [if_neg (by omega)]
      exact k2
    · obtain rfl : j = n := by omega
      rw [← hl]
      exact ⟨by simp, g3⟩

theorem RT.mono {n : Nat} {γ γ' : Gh} {S S' : St} {w w' : World} {T : Tm} {a : Act} (h : RT n γ S w T a) (he : Ext S.length γ S w γ' S' w') : RT n γ' S' w' T a :=
  ⟨h.size, h.defers, fun i => (h.get i).mono he⟩

theorem RT.put {n : Nat} {γ : Gh} {S : St} {w : World} {T : Tm} {a : Act} (h : RT n γ S w T a) {d : Option Nat} (hd : ∀ k, d = some k → k < n) {v : V} {u : Value} (hu : RV γ S w v u) : RT n γ S w (T.put d v) (a.put d u) := by
  cases d with
  | none => exact h
  | some k =>
    refine ⟨by simpa [Act.put] using h.size, by simpa [Act.put] using h.defers, fun i => ?_⟩
    rw [Tm.get_put]
    by_cases hi : k = i
    · subst hi
      have hk := hd k rfl
      have : (a.put (some k) u).tmps.getD k undef = u := by
        have hs := h.size
        simp [Act.put, Array.getD_eq_getD_getElem?, hs ▸ hk]
      rw [this]
      simpa using hu
    · have : (a.put (some k) u).tmps.getD i undef = a.tmps.getD i undef := by
        simp [Act.put, Array.getD_eq_getD_getElem?, Array.getElem?_setIfInBounds_ne hi]
      rw [this]
      simpa [hi] using h.get i

theorem RV.und_inv {γ : Gh} {S : St} {w : World} {v : Value} (h : RV γ S w .und v) : v = undef := by
  cases h
  rfl
theorem guard_ok {n : Nat} {γ : Gh} {S : St} {w : World} {T : Tm} {a : Act} (hT : RT n γ S w T a) {ops : Array Oper} {j : Nat} {b : Option Bool} (h : guardOf ops T j = some b) : yielded ops a.tmps j = b := by
  unfold guardOf at h
  unfold yielded
  cases hd : (ops[j]?).bind (·.dst) with
  | none => simp [hd] at h
  | some d =>
    simp only [hd] at h
    unfold guardV at h
    split at h <;> cases h
    · rename_i b' hg
      have e : a.tmps.getD d undef = .bool b' := by
        exact boolOf_ok (x := T.get d) (by rw [hg]; rfl) (hT.get d)
      have : a.tmps[d]? = some (.bool b') := by
        rw [Array.getD_eq_getD_getElem?] at e
        cases hx : a.tmps[d]? with
        | none => rw [hx] at e; cases e
        | some v => rw [hx] at e; simp at e; rw [e]
      simp [this]
    · rename_i hg
      have e : a.tmps.getD d undef = undef := by
        have := hT.get d
        rw [hg] at this
        exact this.und_inv
      cases hx : a.tmps[d]? with
      | none => simp [hx]
      | some v =>
        rw [Array.getD_eq_getD_getElem?, hx] at e
        simp only [Option.getD_some] at e
        subst e
        simp [hx, undef]

include hty hcall
theorem evOps_ok {n : Nat} {ops : Array Oper} {Q : Exit → Act → World → Prop} (hdst : ∀ (j : Nat) (o : Oper) k, ops[j]? = some o → o.dst = some k → k < n) :
    ∀ (l : List Oper) (s : Nat) (T : Tm) (S : St) (γ : Gh) (w : World) (a : Act) (T' : Tm) (S' : St), (∀ j, l[j]? = ops[s + j]?) → evOps E ops l T S = some (T', S') → Inv γ S w → RT n γ S w T a →
      (∀ γ' w' a', Inv γ' S' w' → Ext S.length γ S w γ' S' w' → RT n γ' S' w' T' a' → Q .normal a' w') → wpOps P ops Q (List.range' s l.length) a w
  | [], s, T, S, γ, w, a, T', S', _, h, hI, hT, hQ => by
    simp only [evOps, Option.some.injEq, Prod.mk.injEq] at h
    obtain ⟨rfl, rfl⟩ := h
    simp only [List.length_nil, List.range'_zero, wpOps]
    exact hQ γ w a hI (Ext.refl (Nat.le_refl _)) hT
  | o :: os, s, T, S, γ, w, a, T', S', hl, h, hI, hT, hQ => by
    have ho : ops[s]? = some o := by simpa using (hl 0).symm
    have hl' : ∀ j, os[j]? = ops[s + 1 + j]? := fun j => by
      have := hl (j + 1)
      simpa [Nat.add_assoc, Nat.add_comm 1 j] using this
    have hd : ∀ k, o.dst = some k → k < n := fun k hk => hdst s o k ho hk
    simp only [List.length_cons, List.range'_succ, wpOps, ho]
    have step : (evOp E S.length T (padS S (needs E T o.op)) o.op).bind (fun r => evOps E ops os (T.put o.dst r.1) (applyW (padS S (needs E T o.op)) r.2)) = some (T', S') →
        o.wp P a w (wpOps P ops Q (List.range' (s + 1) os.length)) Q := fun h => by
      cases hr : evOp E S.length T (padS S (needs E T o.op)) o.op with
      | none => simp [hr] at h
      | some r =>
        obtain ⟨y, W⟩ := r
        simp only [hr, Option.bind_some] at h
        obtain ⟨γ1, h1, h2, h3⟩ := pad_ok hI (needs E T o.op)
        refine evOp_ok hty hcall h1 (hT.mono h2) hr h3 fun u γ2 w2 g1 g2 g3 => ?_
        have hle : S.length ≤ (padS S (needs E T o.op)).length := by simp [padS]
        have hT2 := (hT.mono (h2.trans (g2.less hle))).put hd g3
        have hE := h2.trans (g2.less hle)
        exact evOps_ok hdst os (s + 1) _ _ γ2 w2 _ T' S' hl' h g1 hT2 fun γ' w' a' k1 k2 k3 =>
          hQ γ' w' a' k1 (hE.trans (k2.less (by rw [applyW_length]; exact hle))) k3
    cases hg : o.guard with
    | none =>
      simp only [evOps, hg] at h
      have : Region.wanted o (yielded ops a.tmps) = true := by simp [Region.wanted, hg]
      rw [if_pos this]
      exact .inl (step h)
    | some jw =>
      obtain ⟨j, want⟩ := jw
      simp only [evOps, hg] at h
      cases hb : guardOf ops T j with
      | none => simp [hb] at h
      | some b =>
        simp only [hb, Option.bind_some] at h
        have hy := guard_ok hT hb
        by_cases hbw : b = some want
        · subst hbw
          rw [if_pos rfl] at h
          have : Region.wanted o (yielded ops a.tmps) = true := by simp [Region.wanted, hg, hy]
          rw [if_pos this]
          exact .inl (step h)
        · rw [if_neg hbw] at h
          have : Region.wanted o (yielded ops a.tmps) = false := by simp [Region.wanted, hg, hy, hbw]
          rw [this]
          simp only [Bool.false_eq_true, if_false]
          exact evOps_ok hdst os (s + 1) _ _ γ w _ T' S' hl' h hI (hT.put hd .und) hQ

theorem region_ok {n id : Nat} {ops : Array Oper} {Q : Exit → Act → World → Prop} (hdst : ∀ (j : Nat) (o : Oper) k, ops[j]? = some o → o.dst = some k → k < n)
    {T T' : Tm} {S S' : St} {γ : Gh} {w : World} {a : Act} (h : evOps E ops ops.toList T S = some (T', S')) (hI : Inv γ S w) (hT : RT n γ S w T a)
    (hQ : ∀ γ' w' a', Inv γ' S' w' → Ext S.length γ S w γ' S' w' → RT n γ' S' w' T' a' → Q .normal a' w') : (Code.region id ops false).wp P Q a w := by
  refine wp_region ?_
  have := evOps_ok hty hcall hdst ops.toList 0 T S γ w a T' S' (fun j => by simp) h hI hT hQ
  rwa [List.range_eq_range', ← Array.length_toList]
end
end
end Go.Wm
