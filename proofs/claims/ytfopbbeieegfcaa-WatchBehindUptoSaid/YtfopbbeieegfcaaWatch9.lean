/-
  A part of the proof: an abstract run of the program, shown to be what the model does, and what it comes to.
-/
import Derived.Test.YtfopbbeieegfcaaVmRu
import Derived.Test.YtfopbbeieegfcaaWatch8
set_option linter.unusedSectionVars false
set_option linter.unnecessarySimpa false
set_option maxRecDepth 100000
set_option linter.unusedVariables false
set_option linter.unusedSimpArgs false
namespace Go.Vm.Try1
open Go Go.Vm Go.Proofs







theorem someL_take (most k at_ : Int) : ∀ (l out : List (Int × Int)), someL most k at_ l out = out ++ (restL k at_ l).take (most - out.length).toNat
  | [], out => by simp [someL, restL]
  | p :: r, out => by
    simp only [someL, restL, List.filter_cons]
    cases hp : (p.2 == k && decide (at_ < p.1)) with
    | true =>
      by_cases hm : (out.length : Int) < most
      · rw [if_pos ⟨hm, rfl⟩, someL_take most k at_ r (out ++ [p])]
        have e : (most - out.length).toNat = (most - ((out ++ [p]).length : Nat)).toNat + 1 := by simp only [List.length_append, List.length_cons, List.length_nil]; omega
        rw [e]
        simp [restL]
      · rw [if_neg (fun h => hm h.1), someL_take most k at_ r out]
        have e : (most - out.length).toNat = 0 := by omega
        simp [e]
    | false =>
      rw [if_neg (by simp), someL_take most k at_ r out]
      simp [restL]
def Rising (l : List (Int × Int)) : Prop := l.Pairwise fun p q => p.1 < q.1
theorem logL_ge : ∀ (i : Nat) (ks : List Int) (p : Int × Int), p ∈ logL i ks → (i : Int) < p.1
  | _, [], p, h => by simp [logL] at h
  | i, k :: r, p, h => by
    simp only [logL, List.mem_cons] at h
    rcases h with rfl | h
    · simp only; omega
    · have := logL_ge (i + 1) r p h
      omega
theorem logL_rising : ∀ (i : Nat) (ks : List Int), Rising (logL i ks)
  | _, [] => List.Pairwise.nil
  | i, k :: r => by
    refine List.Pairwise.cons (fun q hq => ?_) (logL_rising (i + 1) r)
    have := logL_ge (i + 1) r q hq
    exact this
theorem filter_drop (R : List (Int × Int)) (h : Rising R) (j : Nat) (hj : j < R.length) : (R.filter fun p => decide ((R[j]'hj).1 < p.1)) = R.drop (j + 1) := by
  induction R generalizing j with
  | nil => simp at hj
  | cons x r ih =>
    obtain ⟨h1, h2⟩ := List.pairwise_cons.1 h
    cases j with
    | zero =>
      simp only [List.getElem_cons_zero, List.filter_cons, List.drop_succ_cons, List.drop_zero]
      rw [if_neg (by simp)]
      exact List.filter_eq_self.2 fun q hq => by simpa using h1 q hq
    | succ j =>
      simp only [List.length_cons] at hj
      simp only [List.getElem_cons_succ, List.filter_cons, List.drop_succ_cons]
      have hlt := h1 (r[j]'(by omega)) (List.getElem_mem _)
      rw [if_neg (by simp; omega)]
      exact ih h2 j (by omega)
theorem rest_rest (k a b : Int) (L : List (Int × Int)) (hab : a ≤ b) : restL k b L = (restL k a L).filter fun p => decide (b < p.1) := by
  simp only [restL, List.filter_filter]
  congr 1
  funext p
  have e : decide (b < p.1) = (decide (b < p.1) && decide (a < p.1)) := by
    by_cases h2 : b < p.1
    · have h3 : a < p.1 := by omega
      simp [h2, h3]
    · simp [h2]
  rw [e]
  cases (p.2 == k) <;> cases decide (b < p.1) <;> cases decide (a < p.1) <;> rfl
theorem rest_next (k a : Int) (L : List (Int × Int)) (hL : Rising L) (m : Nat) : restL k (lastV ((restL k a L).take m) a) L = (restL k a L).drop m := by
  have hR : Rising (restL k a L) := List.Pairwise.sublist List.filter_sublist hL
  have hgt : ∀ p ∈ restL k a L, a < p.1 := fun p hp => by
    have := (List.mem_filter.1 hp).2
    simp at this
    exact this.2
  cases hl : ((restL k a L).take m).getLast? with
  | none =>
    simp only [lastV, hl]
    rw [List.getLast?_eq_none_iff] at hl
    rcases Nat.eq_zero_or_pos m with h | h
    · subst h; simp
    · have : restL k a L = [] := by
        cases hr : restL k a L with
        | nil => rfl
        | cons x r => rw [hr] at hl; cases m with | zero => omega | succ m => simp at hl
      rw [this]; simp
  | some p =>
    simp only [lastV, hl]
    rw [List.getLast?_eq_getElem?] at hl
    have hlt := (List.getElem?_eq_some_iff.1 hl).1
    have hlen : ((restL k a L).take m).length = min m (restL k a L).length := by simp
    have hj : ((restL k a L).take m).length - 1 < (restL k a L).length := by omega
    have hp : (restL k a L)[((restL k a L).take m).length - 1]'hj = p := by
      have := (List.getElem?_eq_some_iff.1 hl).2
      rw [List.getElem_take] at this
      exact this
    have hap : a ≤ p.1 := by
      have := hgt p (hp ▸ List.getElem_mem _)
      omega
    rw [rest_rest k a p.1 L hap]
    have := filter_drop (restL k a L) hR _ hj
    rw [hp] at this
    rw [this]
    by_cases hm : m ≤ (restL k a L).length
    · congr 1; omega
    · rw [List.drop_eq_nil_iff.2 (by omega), List.drop_eq_nil_iff.2 (by omega)]
end Go.Vm.Try1
