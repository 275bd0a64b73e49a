/-
  A part of the proof: an abstract run of the program, shown to be what the model does, and what it comes to.
-/
import Derived.Test.YtfopbbeieegfcaaW3
set_option linter.unusedSectionVars false
set_option linter.unnecessarySimpa false
set_option maxRecDepth 100000
set_option linter.unusedVariables false
set_option linter.unusedSimpArgs false
set_option linter.defProp false
namespace Go.Wm.Try1
open Go Go.Wm Go.Proofs

/-- versions come in order -/
def Up (l : Log) : Prop := l.Pairwise fun p q => p.1 < q.1
theorem logL_gt : ∀ (i : Nat) (ks : List Int) (p), p ∈ logL i ks → (i : Int) < p.1
  | _, [], p, h => by simp [logL] at h
  | i, k :: r, p, h => by
    simp only [logL, List.mem_cons] at h
    rcases h with rfl | h
    · simp; omega
    · have := logL_gt (i + 1) r p h; omega
theorem logL_up : ∀ (i : Nat) (ks : List Int), Up (logL i ks)
  | _, [] => .nil
  | i, k :: r => .cons (fun q hq => by have := logL_gt (i + 1) r q hq; omega) (logL_up (i + 1) r)
theorem cut_up : ∀ (L : Log) (n : Nat) (p), Up L → (L.take n).getLast? = some p → L.filter (fun q => decide (p.1 < q.1)) = L.drop n
  | [], n, p, _, h => by simp at h
  | q :: r, 0, p, _, h => by simp at h
  | q :: r, n + 1, p, hu, h => by
    have hu' : Up r := (List.pairwise_cons.1 hu).2
    have hq := (List.pairwise_cons.1 hu).1
    simp only [List.take_succ_cons, List.drop_succ_cons] at h ⊢
    cases ht : (r.take n).getLast? with
    | none =>
      rw [List.getLast?_eq_none_iff] at ht
      rw [ht] at h
      simp at h
      subst h
      have hd : r.drop n = r := by
        have := List.take_append_drop n r
        rw [ht] at this
        simpa using this
      rw [hd, List.filter_cons, if_neg (by simp), List.filter_eq_self]
      intro x hx
      simpa using hq x hx
    | some z =>
      have hz : z = p := by
        rw [List.getLast?_cons, ht] at h
        simpa using h
      subst hz
      have hzm : z ∈ r := List.mem_of_mem_take (List.mem_of_getLast? ht)
      have := hq z hzm
      rw [List.filter_cons, if_neg (by simp; omega)]
      exact cut_up r n z hu' ht
theorem come_up {l : Log} (h : Up l) (k a : Int) : Up (comeL k a l) := List.Pairwise.filter _ h
theorem come_next {log : Log} (hu : Up log) (k n a : Int) : comeL k (lastV (nextL k n a log) a) log = (comeL k a log).drop n.toNat := by
  cases hl : (nextL k n a log).getLast? with
  | none =>
    simp only [lastV, hl]
    rw [List.getLast?_eq_none_iff] at hl
    have := List.take_append_drop n.toNat (comeL k a log)
    rw [← nextL, hl] at this
    exact this.symm
  | some p =>
    simp only [lastV, hl]
    rw [← cut_up _ _ p (come_up hu k a) hl]
    have hp : p ∈ comeL k a log := List.mem_of_mem_take (List.mem_of_getLast? hl)
    simp only [comeL, List.mem_filter, Bool.and_eq_true, decide_eq_true_eq] at hp
    simp only [comeL, List.filter_filter]
    congr 1
    funext q
    by_cases h1 : p.1 < q.1
    · have : a < q.1 := by omega
      simp [h1, this]
    · simp [h1]
theorem nextL_n (k n a : Int) (log : Log) (hn : 0 ≤ n) : ((nextL k n a log).length : Int) ≤ n := by
  have : (nextL k n a log).length ≤ n.toNat := by simp [nextL]; omega
  omega
/-- a small number -/
def am (n m : Int) : Int := n % 18446744073709551616 % m
theorem am_nn (n m : Int) (h : 0 < m) : 0 ≤ am n m := Int.emod_nonneg _ (by omega)
theorem am_lt (n m : Int) (h : 0 < m) : am n m < m := Int.emod_lt_of_pos _ h
theorem am_eq (n m : Int) (h1 : 0 < m) (h2 : m ≤ 9223372036854775807) : v16 [.d (.int .i64 (n)), .d (.int .i64 (m))] [] = some (.d (.int .i64 (am n m)), []) := among_eq n m h1 h2
end Go.Wm.Try1
