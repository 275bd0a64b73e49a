/-
  A part of the proof: an abstract run of the program, shown to be what the model does, and what it comes to.
-/
import Derived.Test.YtfopbbeieegfcaaT4
import Derived.Test.YtfopbbeieegfcaaL1
set_option linter.unusedSectionVars false
set_option linter.unnecessarySimpa false
set_option maxRecDepth 100000
set_option linter.unusedVariables false
set_option linter.unusedSimpArgs false
set_option linter.defProp false
namespace Go.Wm.Try1
open Go Go.Wm Go.Proofs
theorem picks_of (k : Nat) : ∀ (xs : List D), (∀ x ∈ xs, ∃ cs, shape ty (k + 2) 95 cs ∧ x = elemT ty 95 cs) → ∃ l : Pk, xs = pksD l
  | [], _ => ⟨[], rfl⟩
  | x :: r, h => by
    obtain ⟨l, rfl⟩ := picks_of k r fun y hy => h y (List.mem_cons_of_mem _ hy)
    obtain ⟨cs, hc, hx⟩ := h x (by simp)
    have hf := shape_st ty_95 rfl hc
    obtain ⟨c1, r1, rfl, _, s1, c2, r2, rfl, _, s2, rfl⟩ := hf
    obtain ⟨a, rfl, _⟩ := shape_str ty_9 rfl s1
    obtain ⟨b, rfl, _⟩ := shape_str ty_9 rfl s2
    rw [elemT_agg ty_95 rfl] at hx
    exact ⟨(a, b) :: l, by simp [hx, pksD, pkD]⟩
theorem bind_of (k : Nat) (cs : List D) (h : shape ty (k + 4) 38 cs) : ∃ p n ps ns l, cs = [.str p, .str n, .int .i64 ps, .int .i64 ns, .sl (pksD l)] := by
  have hf := shape_st ty_38 rfl h
  obtain ⟨c1, r1, rfl, _, s1, c2, r2, rfl, _, s2, c3, r3, rfl, _, s3, c4, r4, rfl, _, s4, c5, r5, rfl, _, s5, rfl⟩ := hf
  obtain ⟨a, rfl, _⟩ := shape_str ty_9 rfl s1
  obtain ⟨b, rfl, _⟩ := shape_str ty_9 rfl s2
  obtain ⟨c, rfl, _⟩ := shape_int ty_3 rfl s3
  obtain ⟨d, rfl, _⟩ := shape_int ty_3 rfl s4
  obtain ⟨ys, rfl, _, h5⟩ := shape_sl ty_36 rfl s5
  obtain ⟨l, rfl⟩ := picks_of _ ys h5
  exact ⟨a, b, c, d, l, rfl⟩
end Go.Wm.Try1
