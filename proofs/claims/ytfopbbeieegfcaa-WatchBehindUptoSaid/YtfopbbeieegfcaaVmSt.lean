/-
  A part of the proof: an abstract run of the program, shown to be what the model does, and what it comes to.
-/
import Derived.Test.YtfopbbeieegfcaaVmEo
set_option linter.unusedVariables false
set_option linter.unusedSimpArgs false
set_option linter.unusedSectionVars false
set_option linter.unnecessarySimpa false
namespace Go.Vm
open Go

/-! ## texts -/
theorem toList_loop (bs : ByteArray) : ∀ (n i : Nat) (r : List UInt8), bs.size - i = n → ByteArray.toList.loop bs i r = r.reverse ++ bs.data.toList.drop i
  | 0, i, r, h => by
    unfold ByteArray.toList.loop
    rw [if_neg (by omega)]
    have : bs.data.toList.drop i = [] := by
      rw [List.drop_eq_nil_iff]
      have : bs.data.toList.length = bs.size := Array.length_toList
      omega
    rw [this, List.append_nil]
  | n + 1, i, r, h => by
    unfold ByteArray.toList.loop
    have hlt : i < bs.size := by omega
    rw [if_pos hlt, toList_loop bs n (i + 1) _ (by omega)]
    have hl : i < bs.data.toList.length := by rw [Array.length_toList]; exact hlt
    rw [List.drop_eq_getElem_cons hl]
    have hg : bs.get! i = bs.data.toList[i] := by
      have h2 : i < bs.data.size := hlt
      show bs.data[i]! = _
      rw [getElem!_pos bs.data i h2, Array.getElem_toList]
    simp [hg]
theorem toList_data (bs : ByteArray) : bs.toList = bs.data.toList := by
  unfold ByteArray.toList
  rw [toList_loop bs (bs.size - 0) 0 [] rfl]
  simp
theorem bytes_ext {a b : ByteArray} (h : a.toList = b.toList) : a = b := by
  rw [toList_data, toList_data] at h
  obtain ⟨a⟩ := a
  obtain ⟨b⟩ := b
  simp only [Array.toList_inj] at h
  subst h
  rfl
theorem beq_toList (a b : ByteArray) : (a.toList == b.toList) = decide (a = b) := by
  by_cases h : a = b
  · subst h; simp
  · rw [decide_eq_false h, beq_eq_false_iff_ne]
    exact fun e => h (bytes_ext e)
theorem str_eql (a b : ByteArray) : strOp .eql a b = some (.bool (decide (a = b))) := by simp only [strOp, beq_toList]
theorem str_neq (a b : ByteArray) : strOp .neq a b = some (.bool (!decide (a = b))) := by simp only [strOp, beq_toList]
theorem str_lss (a b : ByteArray) : strOp .lss a b = some (.bool (Op.bytesLess a.toList b.toList)) := rfl
theorem str_leq (a b : ByteArray) : strOp .leq a b = some (.bool (Op.bytesLess a.toList b.toList || decide (a = b))) := by simp only [strOp, beq_toList]
theorem str_gtr (a b : ByteArray) : strOp .gtr a b = some (.bool (!(Op.bytesLess a.toList b.toList || decide (a = b)))) := by simp only [strOp, beq_toList]
theorem str_geq (a b : ByteArray) : strOp .geq a b = some (.bool (!Op.bytesLess a.toList b.toList)) := rfl
theorem str_add (a b : ByteArray) : strOp .add a b = if a.size + b.size ≤ 9223372036854775807 then some (.str (a ++ b)) else none := rfl
theorem empty_mk : (⟨#[]⟩ : ByteArray) = ByteArray.empty := rfl
end Go.Vm
