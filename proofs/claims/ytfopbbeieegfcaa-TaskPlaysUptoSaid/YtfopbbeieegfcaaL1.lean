/-
  A part of the proof: an abstract run of the program, shown to be what the model does, and what it comes to.
-/
import Derived.Test.YtfopbbeieegfcaaW8
set_option linter.unusedSectionVars false
set_option linter.unnecessarySimpa false
set_option maxRecDepth 100000
set_option linter.unusedVariables false
set_option linter.unusedSimpArgs false
set_option linter.defProp false
namespace Go.Wm.Try1
open Go Go.Wm Go.Proofs
theorem acts_of (k : Nat) : ∀ (xs : List D), (∀ x ∈ xs, ∃ cs, shape ty (k + 2) 49 cs ∧ x = elemT ty 49 cs) → ∃ l : List Act, xs = l.map Act.d
  | [], _ => ⟨[], rfl⟩
  | x :: r, h => by
    obtain ⟨l, rfl⟩ := acts_of k r fun y hy => h y (List.mem_cons_of_mem _ hy)
    obtain ⟨cs, hc, hx⟩ := h x (by simp)
    have hf := shape_st ty_49 rfl hc
    obtain ⟨c1, r1, rfl, _, s1, c2, r2, rfl, _, s2, c3, r3, rfl, _, s3, rfl⟩ := hf
    obtain ⟨a, rfl, _⟩ := shape_int ty_3 rfl s1
    obtain ⟨b, rfl, _⟩ := shape_int ty_3 rfl s2
    obtain ⟨c, rfl, _⟩ := shape_int ty_3 rfl s3
    rw [elemT_agg ty_49 rfl] at hx
    exact ⟨⟨a, b, c⟩ :: l, by simp [hx, Act.d]⟩
end Go.Wm.Try1
