/-
  A part of the proof: an abstract run of the program, shown to be what the model does, and what it comes to.
-/
import Derived.Test.YtmfjfejjegemaaaGreatDoorWmRu
set_option linter.unusedVariables false
set_option linter.unusedSimpArgs false
set_option linter.unnecessarySimpa false
set_option linter.defProp false
set_option linter.unusedSectionVars false
namespace Go.Wm
open Go
noncomputable section
theorem allD_map (xs : List D) : allD (xs.map .d) = some xs := by
  induction xs with
  | nil => rfl
  | cons x r ih => simp [allD, ih]
theorem mkAgg_map (xs : List D) : mkAgg (xs.map .d) = .d (.agg xs) := by simp [mkAgg, allD_map]
theorem put1_map (xs : List D) (off : Nat) (a : D) (h : off < xs.length) : putCells (xs.map V.d) off [.d a] = (xs.set off a).map .d := by
  simp only [putCells, List.length_cons, List.length_nil, Nat.zero_add, List.map_take, List.map_drop]
  rw [List.set_eq_take_append_cons_drop]
  simp [h]
theorem put2_map (xs : List D) (off : Nat) (a b : D) (h : off + 1 < xs.length) : putCells (xs.map V.d) off [.d a, .d b] = ((xs.set off a).set (off + 1) b).map .d := by
  simp only [putCells, List.length_cons, List.length_nil, Nat.zero_add]
  apply List.ext_getElem?
  intro i
  simp only [List.getElem?_append, List.length_append, List.length_take, List.length_map, List.getElem?_map, List.getElem?_set, List.length_set, List.getElem?_take, List.getElem?_drop, List.length_cons, List.length_nil]
  rcases Nat.lt_trichotomy i off with h1 | h1 | h1
  · have h2 : i < min off xs.length + (0 + 1 + 1) := by omega
    have h3 : i < min off xs.length := by omega
    have h4 : ¬ off = i := by omega
    have h5 : ¬ off + 1 = i := by omega
    simp [h2, h3, h4, h5, h1]
  · subst h1
    have h2 : i < min i xs.length + (0 + 1 + 1) := by omega
    have h3 : ¬ i < min i xs.length := by omega
    have h4 : i - min i xs.length = 0 := by omega
    have h5 : i < xs.length := by omega
    simp [h2, h3, h4, h5]
  · rcases Nat.lt_trichotomy i (off + 1) with h6 | h6 | h6
    · omega
    · subst h6
      have h2 : off + 1 < min off xs.length + (0 + 1 + 1) := by omega
      have h3 : ¬ off + 1 < min off xs.length := by omega
      have h4 : off + 1 - min off xs.length = 1 := by omega
      simp [h2, h3, h4, h]
    · have h2 : ¬ i < min off xs.length + (0 + 1 + 1) := by omega
      have h4 : ¬ off = i := by omega
      have h5 : ¬ off + 1 = i := by omega
      have h7 : off + (0 + 1 + 1) + (i - (min off xs.length + (0 + 1 + 1))) = i := by omega
      simp only [h2, h4, h5, h7, if_false]
end
end Go.Wm
