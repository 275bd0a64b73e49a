/-
  A part of the proof: an abstract run of the program, shown to be what the model does, and what it comes to.
-/
import Derived.Test.YtmfjfejjegemaaaGreatDoorWmEo
set_option linter.unusedVariables false
set_option linter.unusedSimpArgs false
set_option linter.unnecessarySimpa false
set_option linter.defProp false
set_option linter.unusedSectionVars false
namespace Go.Wm
open Go
variable [GlobReq]
noncomputable section

/-- what a copy of a list comes to: a row that may be written, or data -/
def cloneSpec (rows : Bool) (e sz : Nat) : Spec := fun args S =>
  match args, S with
  | [.sl 0 lo n], [.row e' sz' xs] => if e' = e then (if sz' = sz then (if ((xs.drop lo).take n).all (fun x => x.cells.length == sz) then (if ((xs.drop lo).take n).length = n then (if n ≤ 2147483648 then
      (if rows then some (.sl 1 0 n, [.row e sz xs, .row e sz ((xs.drop lo).take n)]) else some (.d (.sl ((xs.drop lo).take n)), [.row e sz xs])) else none) else none) else none) else none) else none
  | [.d (.sl xs)], [] => if xs.all (fun x => x.cells.length == sz) then (if xs.length ≤ 2147483648 then (if rows then some (.sl 0 0 xs.length, [.row e sz xs]) else some (.d (.sl xs), [])) else none) else none
  | _, _ => none
theorem clone_row (e sz : Nat) (xs : List D) : cloneSpec true e sz [.d (.sl xs)] [] = if xs.all (fun x => x.cells.length == sz) then (if xs.length ≤ 2147483648 then some (.sl 0 0 xs.length, [.row e sz xs]) else none) else none := rfl
theorem clone_data (e sz : Nat) (xs : List D) : cloneSpec false e sz [.d (.sl xs)] [] = if xs.all (fun x => x.cells.length == sz) then (if xs.length ≤ 2147483648 then some (.d (.sl xs), []) else none) else none := rfl
theorem clone_sub (rows : Bool) (e sz lo n : Nat) (xs : List D) (h1 : ((xs.drop lo).take n).all (fun x => x.cells.length == sz) = true) (h2 : ((xs.drop lo).take n).length = n) (h3 : n ≤ 2147483648) :
    cloneSpec rows e sz [.sl 0 lo n] [.row e sz xs] = if rows then some (.sl 1 0 n, [.row e sz xs, .row e sz ((xs.drop lo).take n)]) else some (.d (.sl ((xs.drop lo).take n)), [.row e sz xs]) := by
  simp only [cloneSpec, h1, h2, h3, if_true]
theorem clone_all (rows : Bool) (e sz : Nat) (xs : List D) (h1 : xs.all (fun x => x.cells.length == sz) = true) (h3 : xs.length ≤ 2147483648) :
    cloneSpec rows e sz [.sl 0 0 xs.length] [.row e sz xs] = if rows then some (.sl 1 0 xs.length, [.row e sz xs, .row e sz xs]) else some (.d (.sl xs), [.row e sz xs]) := by
  have := clone_sub rows e sz 0 xs.length xs (by simpa using h1) (by simp) h3
  simpa using this

theorem clone_sound {P : Program} {f : Nat} {v : Spec} {rows : Bool} {e sz : Nat} (ok : SoundAt P f v)
    (h1 : ∀ x r, (x :: r).all (fun x => x.cells.length == sz) = true → (x :: r).length ≤ 2147483648 → v [.d (.sl (x :: r))] [] = if rows then some (.sl 0 0 (x :: r).length, [.row e sz (x :: r)]) else some (.d (.sl (x :: r)), []))
    (h2 : v [.nil] [] = if rows then some (.nil, []) else some (.d (.sl []), []))
    (h3 : v [.emp] [] = if rows then some (.sl 0 0 0, [.row e sz []]) else some (.d (.sl []), []))
    (h4 : ∀ xs lo n, 0 < n → ((xs.drop lo).take n).all (fun x => x.cells.length == sz) = true → ((xs.drop lo).take n).length = n → n ≤ 2147483648 → v [.sl 0 lo n] [.row e sz xs] = if rows then some (.sl 1 0 n, [.row e sz xs, .row e sz ((xs.drop lo).take n)]) else some (.d (.sl ((xs.drop lo).take n)), [.row e sz xs]))
    (h5 : ∀ xs, v [.nil] [.row e sz xs] = if rows then some (.nil, [.row e sz xs]) else some (.d (.sl []), [.row e sz xs]))
    (h6 : ∀ xs, v [.emp] [.row e sz xs] = if rows then some (.sl 1 0 0, [.row e sz xs, .row e sz []]) else some (.d (.sl []), [.row e sz xs])) : SoundAt P f (cloneSpec rows e sz) := by
  refine ⟨ok.1, fun args S r S' hr => ?_⟩
  unfold cloneSpec at hr
  split at hr <;> first | (cases hr; done) | skip
  · rename_i lo n e' sz' xs
    split at hr <;> first | (cases hr; done) | skip
    rename_i he
    split at hr <;> first | (cases hr; done) | skip
    rename_i hs
    subst he hs
    split at hr <;> first | (cases hr; done) | skip
    rename_i hall
    split at hr <;> first | (cases hr; done) | skip
    rename_i hlen
    split at hr <;> first | (cases hr; done) | skip
    rename_i hmax
    rcases Nat.eq_zero_or_pos n with rfl | hn
    · intro γ w vs hI hA
      obtain ⟨u, rfl, hu⟩ := hA.one
      have hrow : rowAt [AObj.row e' sz' xs] 0 = some (e', sz', xs) := rfl
      obtain ⟨c, hcm, hcase⟩ : ∃ c, c ≤ maxLen ∧ (u = .slice none 0 0 ∨ ∃ a, u = .slice (some a) 0 c) := by
        obtain ⟨_, ⟨_, a, rfl⟩ | ⟨b, cap, cur, _, rfl, _, hmx, _⟩⟩ := hu.sl_row hrow
        · cases a with
          | none => exact ⟨0, Nat.zero_le _, .inl rfl⟩
          | some a => exact ⟨0, Nat.zero_le _, .inr ⟨_, rfl⟩⟩
        · exact ⟨cap, hmx, .inr ⟨_, rfl⟩⟩
      rcases hcase with rfl | ⟨a, rfl⟩
      · have hA' : RArgs γ [.row e' sz' xs] w [.nil] #[.slice none 0 0] := ⟨rfl, fun j y u hy hu => by
          cases j with
          | zero => simp at hy hu; subst hy hu; exact .nil
          | succ j => simp at hy⟩
        cases rows with
        | false =>
          simp only [Bool.false_eq_true, if_false, Option.some.injEq, Prod.mk.injEq, List.take_zero] at h5 hr
          obtain ⟨rfl, rfl⟩ := hr
          exact ok.2 _ _ _ _ (h5 _) γ w _ hI hA'
        | true =>
          simp only [if_true, Option.some.injEq, Prod.mk.injEq, List.take_zero] at h5 hr
          obtain ⟨rfl, rfl⟩ := hr
          refine (ok.2 _ _ _ _ (h5 _) γ w _ hI hA').mono ?_
          rintro e2 w' ⟨v', r', γ', S'', rfl, ⟨rfl, rfl⟩, g1, g2, g3⟩
          obtain ⟨γ2, k1, k2, _⟩ := tok_new g1 (ob := .row e' sz' []) (.inr ⟨_, _, rfl⟩)
          refine ⟨v', _, γ2, _, rfl, ⟨rfl, rfl⟩, k1, g2.trans k2, ?_⟩
          cases g3
          exact .sl 1 0 0 (.row e' sz' []) _ (.zero rfl) rfl (.inr ⟨_, rfl⟩) (fun e1 sz1 xs1 hr1 => by cases hr1; exact ⟨by simp, .inl ⟨rfl, none, rfl⟩⟩)
      · have hA' : RArgs γ [.row e' sz' xs] w [.emp] #[.slice (some a) 0 c] := ⟨rfl, fun j y u hy hu => by
          cases j with
          | zero => simp at hy hu; subst hy hu; exact .emp a c hcm
          | succ j => simp at hy⟩
        refine ok.2 _ _ _ _ ((h6 _).trans ?_) γ w _ hI hA'
        simpa using hr
    · exact ok.2 _ _ _ _ ((h4 _ _ _ hn hall hlen hmax).trans hr)
  · rename_i xs
    split at hr <;> first | (cases hr; done) | skip
    split at hr <;> first | (cases hr; done) | skip
    rename_i hall hlen
    cases xs with
    | cons x q =>
      have := h1 x q hall hlen
      exact ok.2 _ _ _ _ (this.trans hr)
    | nil =>
      intro γ w vs hI hA
      obtain ⟨u, rfl, hu⟩ := hA.one
      have hrd : RD γ.fz w (.sl []) u := by cases hu; assumption
      rcases hrd.sl_inv with ⟨_, rfl⟩ | ⟨_, a, cap, _, rfl, _, _, hmax, _⟩
      · have hA' : RArgs γ [] w [.nil] #[.slice none 0 0] := ⟨rfl, fun j y u hy hu => by
          cases j with
          | zero => simp at hy hu; subst hy hu; exact .nil
          | succ j => simp at hy⟩
        cases rows with
        | false =>
          simp only [Bool.false_eq_true, if_false, Option.some.injEq, Prod.mk.injEq] at h2 hr
          obtain ⟨rfl, rfl⟩ := hr
          exact ok.2 _ _ _ _ h2 γ w _ hI hA'
        | true =>
          simp only [if_true, Option.some.injEq, Prod.mk.injEq] at h2 hr
          obtain ⟨rfl, rfl⟩ := hr
          refine (ok.2 _ _ _ _ h2 γ w _ hI hA').mono ?_
          rintro e' w' ⟨v', r', γ', S'', rfl, ⟨rfl, rfl⟩, g1, g2, g3⟩
          obtain ⟨γ2, k1, k2, _⟩ := tok_new g1 (ob := .row e sz []) (.inr ⟨_, _, rfl⟩)
          refine ⟨v', _, γ2, _, rfl, ⟨rfl, rfl⟩, k1, g2.trans k2, ?_⟩
          cases g3
          exact .sl 0 0 0 (.row e sz []) _ (.zero rfl) rfl (.inr ⟨_, rfl⟩) (fun e1 sz1 xs1 hr1 => by cases hr1; exact ⟨by simp, .inl ⟨rfl, none, rfl⟩⟩)
      · have hA' : RArgs γ [] w [.emp] #[.slice (some a) 0 cap] := ⟨rfl, fun j y u hy hu => by
          cases j with
          | zero => simp at hy hu; subst hy hu; exact .emp a cap hmax
          | succ j => simp at hy⟩
        refine ok.2 _ _ _ _ (h3.trans ?_) γ w _ hI hA'
        simpa using hr
end
end Go.Wm
