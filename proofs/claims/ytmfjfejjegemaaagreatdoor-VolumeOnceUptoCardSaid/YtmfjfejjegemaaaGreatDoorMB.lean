/-
  A part of the proof: an abstract run of the program, shown to be what the model does, and what it comes to.
-/
import Derived.Test.YtmfjfejjegemaaaGreatDoorMA
set_option linter.unusedSectionVars false
set_option linter.unnecessarySimpa false
set_option maxRecDepth 100000
set_option linter.unusedVariables false
set_option linter.unusedSimpArgs false
set_option linter.defProp false
namespace Go.Wm.Try1
open Go Go.Wm Go.Proofs
/-- the first of a name -/
def fnd {α : Type} (nm : α → Str) (l : List α) (s : Str) : Option Nat := l.findIdx? fun x => decide (nm x = s)
def idx : Option Nat → Int
  | some i => (i : Int)
  | none => -1
theorem fnd_cons {α : Type} (nm : α → Str) (a : α) (l : List α) (s : Str) : fnd nm (a :: l) s = if nm a = s then some 0 else (fnd nm l s).map (· + 1) := by
  unfold fnd
  rw [List.findIdx?_cons]
  by_cases h : nm a = s <;> simp [h]
set_option maxHeartbeats 4000000 in
theorem name_Claim (x : Claim) : v42 [.d x.d] [] = some (.d (.str x.name), []) := by
  simp only [u42, Tryz.f42, Claim.d, sm, tys, Nat.reduceAdd, Nat.reduceSub, Nat.reduceEqDiff, Nat.reduceLeDiff, Nat.reduceLT, Nat.reduceMul, Nat.reduceBEq, ↓reduceIte, reduceCtorEq, Int.reduceLT, Int.reduceLE, Int.reduceGT, Int.reduceGE, Int.reduceBEq, Int.reduceBNe, Int.reduceEq, Int.reduceNe, Int.reduceAdd, Int.reduceSub, Int.reduceMul, Int.reduceNeg, Int.reduceToNat]
theorem by1_Claim (x : Claim) (s : Str) : v66 [.d x.d, .ptr 0 0, .ptr 1 0] [.box [.d (.fn (.func 42))], .box [.d (.str s)]] = some (.d (.bool (decide (x.name = s))), [.box [.d (.fn (.func 42))], .box [.d (.str s)]]) := by
  have h := name_Claim x
  simp only [Claim.d] at h
  by_cases e : x.name = s
  · simp only [e] at h
    simp only [u66, Tryz.f66, Claim.d, h, e, sm, tys, Nat.reduceAdd, Nat.reduceSub, Nat.reduceEqDiff, Nat.reduceLeDiff, Nat.reduceLT, Nat.reduceMul, Nat.reduceBEq, ↓reduceIte, reduceCtorEq, Int.reduceLT, Int.reduceLE, Int.reduceGT, Int.reduceGE, Int.reduceBEq, Int.reduceBNe, Int.reduceEq, Int.reduceNe, Int.reduceAdd, Int.reduceSub, Int.reduceMul, Int.reduceNeg, Int.reduceToNat]
  · simp only [u66, Tryz.f66, Claim.d, h, e, sm, tys, Nat.reduceAdd, Nat.reduceSub, Nat.reduceEqDiff, Nat.reduceLeDiff, Nat.reduceLT, Nat.reduceMul, Nat.reduceBEq, ↓reduceIte, reduceCtorEq, Int.reduceLT, Int.reduceLE, Int.reduceGT, Int.reduceGE, Int.reduceBEq, Int.reduceBNe, Int.reduceEq, Int.reduceNe, Int.reduceAdd, Int.reduceSub, Int.reduceMul, Int.reduceNeg, Int.reduceToNat]
set_option maxHeartbeats 4000000 in
theorem by_loop_Claim {bd : Code} (hb : bd = bodyAt Tryz.f65 2) (cl : List (Nat × Spec)) (l : List Claim) (hl : Small l) (s : Str) : ∀ (k i : Nat), i + k = l.length →
    (∃ j, fnd Claim.name (l.drop i) s = some j ∧ evLoop (E65 ((66, v66) :: cl)) 2 bd [(0, .d (.sl (l.map Claim.d))), (1, .fn (.func 66) [] [.ptr 0 0, .ptr 1 0]), (7, .d (.int .i64 (l.length))), (8, .d (.int .i64 ((i : Int))))] [.box [.d (.fn (.func 42))], .box [.d (.str s)]] = some ([(4, .d (.int .i64 (((i + j : Nat) : Int))))], [.box [.d (.fn (.func 42))], .box [.d (.str s)]], .ret)) ∨
    (fnd Claim.name (l.drop i) s = none ∧ evLoop (E65 ((66, v66) :: cl)) 2 bd [(0, .d (.sl (l.map Claim.d))), (1, .fn (.func 66) [] [.ptr 0 0, .ptr 1 0]), (7, .d (.int .i64 (l.length))), (8, .d (.int .i64 ((i : Int))))] [.box [.d (.fn (.func 42))], .box [.d (.str s)]] = some ([(0, .d (.sl (l.map Claim.d))), (1, .fn (.func 66) [] [.ptr 0 0, .ptr 1 0]), (7, .d (.int .i64 (l.length))), (8, .d (.int .i64 (l.length))), (9, .d (.bool false))], [.box [.d (.fn (.func 42))], .box [.d (.str s)]], .exit 0)) := by
  simp only [bodyAt, bodyOf, loop_seq, loop_cond, loop_block, loop_loop, loop_region, loop_skip, loop_ret, loop_exit, orE_some, orE_none, Code.first, Option.getD_some, Nat.reduceEqDiff, ↓reduceIte, Tryz.f65] at hb
  subst hb
  unfold Small at hl
  intro k
  induction k with
  | zero =>
    intro i hk
    have hi : (i : Int) = (l.length : Int) := by omega
    have hd : l.drop i = [] := by rw [List.drop_eq_nil_iff]; omega
    rw [c_round, hd]
    refine Or.inr ⟨rfl, ?_⟩
    simp only [u65, Tryz.f65, hi, Int.lt_irrefl, sm, tys, Nat.reduceAdd, Nat.reduceSub, Nat.reduceEqDiff, Nat.reduceLeDiff, Nat.reduceLT, Nat.reduceMul, Nat.reduceBEq, ↓reduceIte, reduceCtorEq, Int.reduceLT, Int.reduceLE, Int.reduceGT, Int.reduceGE, Int.reduceBEq, Int.reduceBNe, Int.reduceEq, Int.reduceNe, Int.reduceAdd, Int.reduceSub, Int.reduceMul, Int.reduceNeg, Int.reduceToNat]
  | succ k ih =>
    intro i hk
    have hi : (i : Int) < (l.length : Int) := by omega
    have h0 : 0 ≤ (i : Int) := by omega
    have hlt : i < l.length := by omega
    have hci : l[i]? = some l[i] := by simp [hlt]
    have hd : l.drop i = l[i] :: l.drop (i + 1) := List.drop_eq_getElem_cons hlt
    generalize l[i] = c at hci hd
    have hw : IntKind.i64.wrap ((i : Int) + 1) = ((i + 1 : Nat) : Int) := by rw [wrap_i64 (by omega) (by omega)]; omega
    have hh := by1_Claim c s
    simp only [Claim.d] at hh
    rw [hd, fnd_cons]
    by_cases e : c.name = s
    · refine Or.inl ⟨0, by rw [if_pos e], ?_⟩
      simp only [e, decide_true] at hh
      rw [c_round]
      simp only [u65, Tryz.f65, hi, h0, hci, hh, e, Claim.d, sm, tys, Nat.reduceAdd, Nat.reduceSub, Nat.reduceEqDiff, Nat.reduceLeDiff, Nat.reduceLT, Nat.reduceMul, Nat.reduceBEq, ↓reduceIte, reduceCtorEq, Int.reduceLT, Int.reduceLE, Int.reduceGT, Int.reduceGE, Int.reduceBEq, Int.reduceBNe, Int.reduceEq, Int.reduceNe, Int.reduceAdd, Int.reduceSub, Int.reduceMul, Int.reduceNeg, Int.reduceToNat]
    · rw [if_neg e]
      simp only [e, decide_false] at hh
      rcases ih (i + 1) (by omega) with ⟨j, q1, q2⟩ | ⟨q1, q2⟩
      · refine Or.inl ⟨j + 1, by rw [q1]; rfl, ?_⟩
        have e2 : i + (j + 1) = i + 1 + j := by omega
        rw [e2, ← q2, c_round]
        simp only [u65, Tryz.f65, hi, h0, hci, hh, hw, Claim.d, sm, tys, Nat.reduceAdd, Nat.reduceSub, Nat.reduceEqDiff, Nat.reduceLeDiff, Nat.reduceLT, Nat.reduceMul, Nat.reduceBEq, ↓reduceIte, reduceCtorEq, Int.reduceLT, Int.reduceLE, Int.reduceGT, Int.reduceGE, Int.reduceBEq, Int.reduceBNe, Int.reduceEq, Int.reduceNe, Int.reduceAdd, Int.reduceSub, Int.reduceMul, Int.reduceNeg, Int.reduceToNat]
      · refine Or.inr ⟨by rw [q1]; rfl, ?_⟩
        rw [← q2, c_round]
        simp only [u65, Tryz.f65, hi, h0, hci, hh, hw, Claim.d, sm, tys, Nat.reduceAdd, Nat.reduceSub, Nat.reduceEqDiff, Nat.reduceLeDiff, Nat.reduceLT, Nat.reduceMul, Nat.reduceBEq, ↓reduceIte, reduceCtorEq, Int.reduceLT, Int.reduceLE, Int.reduceGT, Int.reduceGE, Int.reduceBEq, Int.reduceBNe, Int.reduceEq, Int.reduceNe, Int.reduceAdd, Int.reduceSub, Int.reduceMul, Int.reduceNeg, Int.reduceToNat]
set_option maxHeartbeats 4000000 in
theorem by_Claim (cl : List (Nat × Spec)) (l : List Claim) (hl : Small l) (s : Str) : v41 cl [.d (.sl (l.map Claim.d)), .d (.fn (.func 42)), .d (.str s)] [] = some (.d (.int .i64 (idx (fnd Claim.name l s))), []) := by
  have h := by_loop_Claim (bd := bodyAt Tryz.f65 2) rfl cl l hl s l.length 0 (by omega)
  rw [List.drop_zero] at h
  simp only [bodyAt, bodyOf, loop_seq, loop_cond, loop_block, loop_loop, loop_region, loop_skip, loop_ret, loop_exit, orE_some, orE_none, Code.first, Option.getD_some, Nat.reduceEqDiff, ↓reduceIte, Tryz.f65] at h
  simp only [Int.cast_ofNat_Int, Nat.zero_add] at h
  rcases h with ⟨j, q1, q2⟩ | ⟨q1, q2⟩
  · rw [q1]
    simp only [u41, Tryz.f41, u65, Tryz.f65, q2, idx, sm, tys, Nat.reduceAdd, Nat.reduceSub, Nat.reduceEqDiff, Nat.reduceLeDiff, Nat.reduceLT, Nat.reduceMul, Nat.reduceBEq, ↓reduceIte, reduceCtorEq, Int.reduceLT, Int.reduceLE, Int.reduceGT, Int.reduceGE, Int.reduceBEq, Int.reduceBNe, Int.reduceEq, Int.reduceNe, Int.reduceAdd, Int.reduceSub, Int.reduceMul, Int.reduceNeg, Int.reduceToNat]
  · rw [q1]
    simp only [u41, Tryz.f41, u65, Tryz.f65, q2, idx, sm, tys, Nat.reduceAdd, Nat.reduceSub, Nat.reduceEqDiff, Nat.reduceLeDiff, Nat.reduceLT, Nat.reduceMul, Nat.reduceBEq, ↓reduceIte, reduceCtorEq, Int.reduceLT, Int.reduceLE, Int.reduceGT, Int.reduceGE, Int.reduceBEq, Int.reduceBNe, Int.reduceEq, Int.reduceNe, Int.reduceAdd, Int.reduceSub, Int.reduceMul, Int.reduceNeg, Int.reduceToNat]
set_option maxHeartbeats 4000000 in
theorem name_Vol (x : Vol) : v40 [.d x.d] [] = some (.d (.str x.name), []) := by
  simp only [u40, Tryz.f40, Vol.d, sm, tys, Nat.reduceAdd, Nat.reduceSub, Nat.reduceEqDiff, Nat.reduceLeDiff, Nat.reduceLT, Nat.reduceMul, Nat.reduceBEq, ↓reduceIte, reduceCtorEq, Int.reduceLT, Int.reduceLE, Int.reduceGT, Int.reduceGE, Int.reduceBEq, Int.reduceBNe, Int.reduceEq, Int.reduceNe, Int.reduceAdd, Int.reduceSub, Int.reduceMul, Int.reduceNeg, Int.reduceToNat]
theorem by1_Vol (x : Vol) (s : Str) : v64 [.d x.d, .ptr 0 0, .ptr 1 0] [.box [.d (.fn (.func 40))], .box [.d (.str s)]] = some (.d (.bool (decide (x.name = s))), [.box [.d (.fn (.func 40))], .box [.d (.str s)]]) := by
  have h := name_Vol x
  simp only [Vol.d] at h
  by_cases e : x.name = s
  · simp only [e] at h
    simp only [u64, Tryz.f64, Vol.d, h, e, sm, tys, Nat.reduceAdd, Nat.reduceSub, Nat.reduceEqDiff, Nat.reduceLeDiff, Nat.reduceLT, Nat.reduceMul, Nat.reduceBEq, ↓reduceIte, reduceCtorEq, Int.reduceLT, Int.reduceLE, Int.reduceGT, Int.reduceGE, Int.reduceBEq, Int.reduceBNe, Int.reduceEq, Int.reduceNe, Int.reduceAdd, Int.reduceSub, Int.reduceMul, Int.reduceNeg, Int.reduceToNat]
  · simp only [u64, Tryz.f64, Vol.d, h, e, sm, tys, Nat.reduceAdd, Nat.reduceSub, Nat.reduceEqDiff, Nat.reduceLeDiff, Nat.reduceLT, Nat.reduceMul, Nat.reduceBEq, ↓reduceIte, reduceCtorEq, Int.reduceLT, Int.reduceLE, Int.reduceGT, Int.reduceGE, Int.reduceBEq, Int.reduceBNe, Int.reduceEq, Int.reduceNe, Int.reduceAdd, Int.reduceSub, Int.reduceMul, Int.reduceNeg, Int.reduceToNat]
set_option maxHeartbeats 4000000 in
theorem by_loop_Vol {bd : Code} (hb : bd = bodyAt Tryz.f63 2) (cl : List (Nat × Spec)) (l : List Vol) (hl : Small l) (s : Str) : ∀ (k i : Nat), i + k = l.length →
    (∃ j, fnd Vol.name (l.drop i) s = some j ∧ evLoop (E63 ((64, v64) :: cl)) 2 bd [(0, .d (.sl (l.map Vol.d))), (1, .fn (.func 64) [] [.ptr 0 0, .ptr 1 0]), (7, .d (.int .i64 (l.length))), (8, .d (.int .i64 ((i : Int))))] [.box [.d (.fn (.func 40))], .box [.d (.str s)]] = some ([(4, .d (.int .i64 (((i + j : Nat) : Int))))], [.box [.d (.fn (.func 40))], .box [.d (.str s)]], .ret)) ∨
    (fnd Vol.name (l.drop i) s = none ∧ evLoop (E63 ((64, v64) :: cl)) 2 bd [(0, .d (.sl (l.map Vol.d))), (1, .fn (.func 64) [] [.ptr 0 0, .ptr 1 0]), (7, .d (.int .i64 (l.length))), (8, .d (.int .i64 ((i : Int))))] [.box [.d (.fn (.func 40))], .box [.d (.str s)]] = some ([(0, .d (.sl (l.map Vol.d))), (1, .fn (.func 64) [] [.ptr 0 0, .ptr 1 0]), (7, .d (.int .i64 (l.length))), (8, .d (.int .i64 (l.length))), (9, .d (.bool false))], [.box [.d (.fn (.func 40))], .box [.d (.str s)]], .exit 0)) := by
  simp only [bodyAt, bodyOf, loop_seq, loop_cond, loop_block, loop_loop, loop_region, loop_skip, loop_ret, loop_exit, orE_some, orE_none, Code.first, Option.getD_some, Nat.reduceEqDiff, ↓reduceIte, Tryz.f63] at hb
  subst hb
  unfold Small at hl
  intro k
  induction k with
  | zero =>
    intro i hk
    have hi : (i : Int) = (l.length : Int) := by omega
    have hd : l.drop i = [] := by rw [List.drop_eq_nil_iff]; omega
    rw [c_round, hd]
    refine Or.inr ⟨rfl, ?_⟩
    simp only [u63, Tryz.f63, hi, Int.lt_irrefl, sm, tys, Nat.reduceAdd, Nat.reduceSub, Nat.reduceEqDiff, Nat.reduceLeDiff, Nat.reduceLT, Nat.reduceMul, Nat.reduceBEq, ↓reduceIte, reduceCtorEq, Int.reduceLT, Int.reduceLE, Int.reduceGT, Int.reduceGE, Int.reduceBEq, Int.reduceBNe, Int.reduceEq, Int.reduceNe, Int.reduceAdd, Int.reduceSub, Int.reduceMul, Int.reduceNeg, Int.reduceToNat]
  | succ k ih =>
    intro i hk
    have hi : (i : Int) < (l.length : Int) := by omega
    have h0 : 0 ≤ (i : Int) := by omega
    have hlt : i < l.length := by omega
    have hci : l[i]? = some l[i] := by simp [hlt]
    have hd : l.drop i = l[i] :: l.drop (i + 1) := List.drop_eq_getElem_cons hlt
    generalize l[i] = c at hci hd
    have hw : IntKind.i64.wrap ((i : Int) + 1) = ((i + 1 : Nat) : Int) := by rw [wrap_i64 (by omega) (by omega)]; omega
    have hh := by1_Vol c s
    simp only [Vol.d] at hh
    rw [hd, fnd_cons]
    by_cases e : c.name = s
    · refine Or.inl ⟨0, by rw [if_pos e], ?_⟩
      simp only [e, decide_true] at hh
      rw [c_round]
      simp only [u63, Tryz.f63, hi, h0, hci, hh, e, Vol.d, sm, tys, Nat.reduceAdd, Nat.reduceSub, Nat.reduceEqDiff, Nat.reduceLeDiff, Nat.reduceLT, Nat.reduceMul, Nat.reduceBEq, ↓reduceIte, reduceCtorEq, Int.reduceLT, Int.reduceLE, Int.reduceGT, Int.reduceGE, Int.reduceBEq, Int.reduceBNe, Int.reduceEq, Int.reduceNe, Int.reduceAdd, Int.reduceSub, Int.reduceMul, Int.reduceNeg, Int.reduceToNat]
    · rw [if_neg e]
      simp only [e, decide_false] at hh
      rcases ih (i + 1) (by omega) with ⟨j, q1, q2⟩ | ⟨q1, q2⟩
      · refine Or.inl ⟨j + 1, by rw [q1]; rfl, ?_⟩
        have e2 : i + (j + 1) = i + 1 + j := by omega
        rw [e2, ← q2, c_round]
        simp only [u63, Tryz.f63, hi, h0, hci, hh, hw, Vol.d, sm, tys, Nat.reduceAdd, Nat.reduceSub, Nat.reduceEqDiff, Nat.reduceLeDiff, Nat.reduceLT, Nat.reduceMul, Nat.reduceBEq, ↓reduceIte, reduceCtorEq, Int.reduceLT, Int.reduceLE, Int.reduceGT, Int.reduceGE, Int.reduceBEq, Int.reduceBNe, Int.reduceEq, Int.reduceNe, Int.reduceAdd, Int.reduceSub, Int.reduceMul, Int.reduceNeg, Int.reduceToNat]
      · refine Or.inr ⟨by rw [q1]; rfl, ?_⟩
        rw [← q2, c_round]
        simp only [u63, Tryz.f63, hi, h0, hci, hh, hw, Vol.d, sm, tys, Nat.reduceAdd, Nat.reduceSub, Nat.reduceEqDiff, Nat.reduceLeDiff, Nat.reduceLT, Nat.reduceMul, Nat.reduceBEq, ↓reduceIte, reduceCtorEq, Int.reduceLT, Int.reduceLE, Int.reduceGT, Int.reduceGE, Int.reduceBEq, Int.reduceBNe, Int.reduceEq, Int.reduceNe, Int.reduceAdd, Int.reduceSub, Int.reduceMul, Int.reduceNeg, Int.reduceToNat]
set_option maxHeartbeats 4000000 in
theorem by_Vol (cl : List (Nat × Spec)) (l : List Vol) (hl : Small l) (s : Str) : v39 cl [.d (.sl (l.map Vol.d)), .d (.fn (.func 40)), .d (.str s)] [] = some (.d (.int .i64 (idx (fnd Vol.name l s))), []) := by
  have h := by_loop_Vol (bd := bodyAt Tryz.f63 2) rfl cl l hl s l.length 0 (by omega)
  rw [List.drop_zero] at h
  simp only [bodyAt, bodyOf, loop_seq, loop_cond, loop_block, loop_loop, loop_region, loop_skip, loop_ret, loop_exit, orE_some, orE_none, Code.first, Option.getD_some, Nat.reduceEqDiff, ↓reduceIte, Tryz.f63] at h
  simp only [Int.cast_ofNat_Int, Nat.zero_add] at h
  rcases h with ⟨j, q1, q2⟩ | ⟨q1, q2⟩
  · rw [q1]
    simp only [u39, Tryz.f39, u63, Tryz.f63, q2, idx, sm, tys, Nat.reduceAdd, Nat.reduceSub, Nat.reduceEqDiff, Nat.reduceLeDiff, Nat.reduceLT, Nat.reduceMul, Nat.reduceBEq, ↓reduceIte, reduceCtorEq, Int.reduceLT, Int.reduceLE, Int.reduceGT, Int.reduceGE, Int.reduceBEq, Int.reduceBNe, Int.reduceEq, Int.reduceNe, Int.reduceAdd, Int.reduceSub, Int.reduceMul, Int.reduceNeg, Int.reduceToNat]
  · rw [q1]
    simp only [u39, Tryz.f39, u63, Tryz.f63, q2, idx, sm, tys, Nat.reduceAdd, Nat.reduceSub, Nat.reduceEqDiff, Nat.reduceLeDiff, Nat.reduceLT, Nat.reduceMul, Nat.reduceBEq, ↓reduceIte, reduceCtorEq, Int.reduceLT, Int.reduceLE, Int.reduceGT, Int.reduceGE, Int.reduceBEq, Int.reduceBNe, Int.reduceEq, Int.reduceNe, Int.reduceAdd, Int.reduceSub, Int.reduceMul, Int.reduceNeg, Int.reduceToNat]
set_option maxHeartbeats 4000000 in
theorem name_Class (x : Class) : v69 [.d x.d] [] = some (.d (.str x.name), []) := by
  simp only [u69, Tryz.f69, Class.d, sm, tys, Nat.reduceAdd, Nat.reduceSub, Nat.reduceEqDiff, Nat.reduceLeDiff, Nat.reduceLT, Nat.reduceMul, Nat.reduceBEq, ↓reduceIte, reduceCtorEq, Int.reduceLT, Int.reduceLE, Int.reduceGT, Int.reduceGE, Int.reduceBEq, Int.reduceBNe, Int.reduceEq, Int.reduceNe, Int.reduceAdd, Int.reduceSub, Int.reduceMul, Int.reduceNeg, Int.reduceToNat]
theorem by1_Class (x : Class) (s : Str) : v97 [.d x.d, .ptr 0 0, .ptr 1 0] [.box [.d (.fn (.func 69))], .box [.d (.str s)]] = some (.d (.bool (decide (x.name = s))), [.box [.d (.fn (.func 69))], .box [.d (.str s)]]) := by
  have h := name_Class x
  simp only [Class.d] at h
  by_cases e : x.name = s
  · simp only [e] at h
    simp only [u97, Tryz.f97, Class.d, h, e, sm, tys, Nat.reduceAdd, Nat.reduceSub, Nat.reduceEqDiff, Nat.reduceLeDiff, Nat.reduceLT, Nat.reduceMul, Nat.reduceBEq, ↓reduceIte, reduceCtorEq, Int.reduceLT, Int.reduceLE, Int.reduceGT, Int.reduceGE, Int.reduceBEq, Int.reduceBNe, Int.reduceEq, Int.reduceNe, Int.reduceAdd, Int.reduceSub, Int.reduceMul, Int.reduceNeg, Int.reduceToNat]
  · simp only [u97, Tryz.f97, Class.d, h, e, sm, tys, Nat.reduceAdd, Nat.reduceSub, Nat.reduceEqDiff, Nat.reduceLeDiff, Nat.reduceLT, Nat.reduceMul, Nat.reduceBEq, ↓reduceIte, reduceCtorEq, Int.reduceLT, Int.reduceLE, Int.reduceGT, Int.reduceGE, Int.reduceBEq, Int.reduceBNe, Int.reduceEq, Int.reduceNe, Int.reduceAdd, Int.reduceSub, Int.reduceMul, Int.reduceNeg, Int.reduceToNat]
set_option maxHeartbeats 4000000 in
theorem by_loop_Class {bd : Code} (hb : bd = bodyAt Tryz.f96 2) (cl : List (Nat × Spec)) (l : List Class) (hl : Small l) (s : Str) : ∀ (k i : Nat), i + k = l.length →
    (∃ j, fnd Class.name (l.drop i) s = some j ∧ evLoop (E96 ((97, v97) :: cl)) 2 bd [(0, .d (.sl (l.map Class.d))), (1, .fn (.func 97) [] [.ptr 0 0, .ptr 1 0]), (7, .d (.int .i64 (l.length))), (8, .d (.int .i64 ((i : Int))))] [.box [.d (.fn (.func 69))], .box [.d (.str s)]] = some ([(4, .d (.int .i64 (((i + j : Nat) : Int))))], [.box [.d (.fn (.func 69))], .box [.d (.str s)]], .ret)) ∨
    (fnd Class.name (l.drop i) s = none ∧ evLoop (E96 ((97, v97) :: cl)) 2 bd [(0, .d (.sl (l.map Class.d))), (1, .fn (.func 97) [] [.ptr 0 0, .ptr 1 0]), (7, .d (.int .i64 (l.length))), (8, .d (.int .i64 ((i : Int))))] [.box [.d (.fn (.func 69))], .box [.d (.str s)]] = some ([(0, .d (.sl (l.map Class.d))), (1, .fn (.func 97) [] [.ptr 0 0, .ptr 1 0]), (7, .d (.int .i64 (l.length))), (8, .d (.int .i64 (l.length))), (9, .d (.bool false))], [.box [.d (.fn (.func 69))], .box [.d (.str s)]], .exit 0)) := by
  simp only [bodyAt, bodyOf, loop_seq, loop_cond, loop_block, loop_loop, loop_region, loop_skip, loop_ret, loop_exit, orE_some, orE_none, Code.first, Option.getD_some, Nat.reduceEqDiff, ↓reduceIte, Tryz.f96] at hb
  subst hb
  unfold Small at hl
  intro k
  induction k with
  | zero =>
    intro i hk
    have hi : (i : Int) = (l.length : Int) := by omega
    have hd : l.drop i = [] := by rw [List.drop_eq_nil_iff]; omega
    rw [c_round, hd]
    refine Or.inr ⟨rfl, ?_⟩
    simp only [u96, Tryz.f96, hi, Int.lt_irrefl, sm, tys, Nat.reduceAdd, Nat.reduceSub, Nat.reduceEqDiff, Nat.reduceLeDiff, Nat.reduceLT, Nat.reduceMul, Nat.reduceBEq, ↓reduceIte, reduceCtorEq, Int.reduceLT, Int.reduceLE, Int.reduceGT, Int.reduceGE, Int.reduceBEq, Int.reduceBNe, Int.reduceEq, Int.reduceNe, Int.reduceAdd, Int.reduceSub, Int.reduceMul, Int.reduceNeg, Int.reduceToNat]
  | succ k ih =>
    intro i hk
    have hi : (i : Int) < (l.length : Int) := by omega
    have h0 : 0 ≤ (i : Int) := by omega
    have hlt : i < l.length := by omega
    have hci : l[i]? = some l[i] := by simp [hlt]
    have hd : l.drop i = l[i] :: l.drop (i + 1) := List.drop_eq_getElem_cons hlt
    generalize l[i] = c at hci hd
    have hw : IntKind.i64.wrap ((i : Int) + 1) = ((i + 1 : Nat) : Int) := by rw [wrap_i64 (by omega) (by omega)]; omega
    have hh := by1_Class c s
    simp only [Class.d] at hh
    rw [hd, fnd_cons]
    by_cases e : c.name = s
    · refine Or.inl ⟨0, by rw [if_pos e], ?_⟩
      simp only [e, decide_true] at hh
      rw [c_round]
      simp only [u96, Tryz.f96, hi, h0, hci, hh, e, Class.d, sm, tys, Nat.reduceAdd, Nat.reduceSub, Nat.reduceEqDiff, Nat.reduceLeDiff, Nat.reduceLT, Nat.reduceMul, Nat.reduceBEq, ↓reduceIte, reduceCtorEq, Int.reduceLT, Int.reduceLE, Int.reduceGT, Int.reduceGE, Int.reduceBEq, Int.reduceBNe, Int.reduceEq, Int.reduceNe, Int.reduceAdd, Int.reduceSub, Int.reduceMul, Int.reduceNeg, Int.reduceToNat]
    · rw [if_neg e]
      simp only [e, decide_false] at hh
      rcases ih (i + 1) (by omega) with ⟨j, q1, q2⟩ | ⟨q1, q2⟩
      · refine Or.inl ⟨j + 1, by rw [q1]; rfl, ?_⟩
        have e2 : i + (j + 1) = i + 1 + j := by omega
        rw [e2, ← q2, c_round]
        simp only [u96, Tryz.f96, hi, h0, hci, hh, hw, Class.d, sm, tys, Nat.reduceAdd, Nat.reduceSub, Nat.reduceEqDiff, Nat.reduceLeDiff, Nat.reduceLT, Nat.reduceMul, Nat.reduceBEq, ↓reduceIte, reduceCtorEq, Int.reduceLT, Int.reduceLE, Int.reduceGT, Int.reduceGE, Int.reduceBEq, Int.reduceBNe, Int.reduceEq, Int.reduceNe, Int.reduceAdd, Int.reduceSub, Int.reduceMul, Int.reduceNeg, Int.reduceToNat]
      · refine Or.inr ⟨by rw [q1]; rfl, ?_⟩
        rw [← q2, c_round]
        simp only [u96, Tryz.f96, hi, h0, hci, hh, hw, Class.d, sm, tys, Nat.reduceAdd, Nat.reduceSub, Nat.reduceEqDiff, Nat.reduceLeDiff, Nat.reduceLT, Nat.reduceMul, Nat.reduceBEq, ↓reduceIte, reduceCtorEq, Int.reduceLT, Int.reduceLE, Int.reduceGT, Int.reduceGE, Int.reduceBEq, Int.reduceBNe, Int.reduceEq, Int.reduceNe, Int.reduceAdd, Int.reduceSub, Int.reduceMul, Int.reduceNeg, Int.reduceToNat]
set_option maxHeartbeats 4000000 in
theorem by_Class (cl : List (Nat × Spec)) (l : List Class) (hl : Small l) (s : Str) : v68 cl [.d (.sl (l.map Class.d)), .d (.fn (.func 69)), .d (.str s)] [] = some (.d (.int .i64 (idx (fnd Class.name l s))), []) := by
  have h := by_loop_Class (bd := bodyAt Tryz.f96 2) rfl cl l hl s l.length 0 (by omega)
  rw [List.drop_zero] at h
  simp only [bodyAt, bodyOf, loop_seq, loop_cond, loop_block, loop_loop, loop_region, loop_skip, loop_ret, loop_exit, orE_some, orE_none, Code.first, Option.getD_some, Nat.reduceEqDiff, ↓reduceIte, Tryz.f96] at h
  simp only [Int.cast_ofNat_Int, Nat.zero_add] at h
  rcases h with ⟨j, q1, q2⟩ | ⟨q1, q2⟩
  · rw [q1]
    simp only [u68, Tryz.f68, u96, Tryz.f96, q2, idx, sm, tys, Nat.reduceAdd, Nat.reduceSub, Nat.reduceEqDiff, Nat.reduceLeDiff, Nat.reduceLT, Nat.reduceMul, Nat.reduceBEq, ↓reduceIte, reduceCtorEq, Int.reduceLT, Int.reduceLE, Int.reduceGT, Int.reduceGE, Int.reduceBEq, Int.reduceBNe, Int.reduceEq, Int.reduceNe, Int.reduceAdd, Int.reduceSub, Int.reduceMul, Int.reduceNeg, Int.reduceToNat]
  · rw [q1]
    simp only [u68, Tryz.f68, u96, Tryz.f96, q2, idx, sm, tys, Nat.reduceAdd, Nat.reduceSub, Nat.reduceEqDiff, Nat.reduceLeDiff, Nat.reduceLT, Nat.reduceMul, Nat.reduceBEq, ↓reduceIte, reduceCtorEq, Int.reduceLT, Int.reduceLE, Int.reduceGT, Int.reduceGE, Int.reduceBEq, Int.reduceBNe, Int.reduceEq, Int.reduceNe, Int.reduceAdd, Int.reduceSub, Int.reduceMul, Int.reduceNeg, Int.reduceToNat]
end Go.Wm.Try1
namespace Go.Wm.Try1
open Go Go.Wm Go.Proofs
/-- lists that may be cloned -/
def State.small (s : State) : Prop := Small s.pods ∧ Small s.nodes ∧ Small s.vols ∧ Small s.claims ∧ Small s.classes ∧ Small s.budgets
set_option maxHeartbeats 4000000 in
theorem own_data (s : State) (h : s.small) : v52 [.d s.d] [] = some (.agg [.sl 0 0 (s).pods.length, .sl 1 0 (s).nodes.length, .sl 2 0 (s).vols.length, .sl 3 0 (s).claims.length, .sl 4 0 (s).classes.length, .sl 5 0 (s).budgets.length], [.row 33 16 (((s).pods).map Pod.d), .row 36 9 (((s).nodes).map Node.d), .row 48 5 (((s).vols).map Vol.d), .row 61 4 (((s).claims).map Claim.d), .row 71 2 (((s).classes).map Class.d), .row 78 3 (((s).budgets).map Budget.d)]) := by
  unfold State.small Small at h
  obtain ⟨h1, h2, h3, h4, h5, h6⟩ := h
  have a1 := all_Podd s.pods
  have a2 := all_Noded s.nodes
  have a3 := all_Vold s.vols
  have a4 := all_Claimd s.claims
  have a5 := all_Classd s.classes
  have a6 := all_Budgetd s.budgets
  have l1 : s.pods.length ≤ 2147483648 := by omega
  have l2 : s.nodes.length ≤ 2147483648 := by omega
  have l3 : s.vols.length ≤ 2147483648 := by omega
  have l4 : s.claims.length ≤ 2147483648 := by omega
  have l5 : s.classes.length ≤ 2147483648 := by omega
  have l6 : s.budgets.length ≤ 2147483648 := by omega
  simp only [u52, Tryz.f52, u87, Tryz.f87, u88, Tryz.f88, u89, Tryz.f89, u90, Tryz.f90, u91, Tryz.f91, u71, Tryz.f71, State.d, State.cs, a1, a2, a3, a4, a5, a6, l1, l2, l3, l4, l5, l6, sm, tys, Nat.reduceAdd, Nat.reduceSub, Nat.reduceEqDiff, Nat.reduceLeDiff, Nat.reduceLT, Nat.reduceMul, Nat.reduceBEq, ↓reduceIte, reduceCtorEq, Int.reduceLT, Int.reduceLE, Int.reduceGT, Int.reduceGE, Int.reduceBEq, Int.reduceBNe, Int.reduceEq, Int.reduceNe, Int.reduceAdd, Int.reduceSub, Int.reduceMul, Int.reduceNeg, Int.reduceToNat]
set_option maxHeartbeats 4000000 in
theorem own_rows (s : State) (h : s.small) : v52 [.agg [.sl 0 0 (s).pods.length, .sl 1 0 (s).nodes.length, .sl 2 0 (s).vols.length, .sl 3 0 (s).claims.length, .sl 4 0 (s).classes.length, .sl 5 0 (s).budgets.length]] [.row 33 16 (((s).pods).map Pod.d), .row 36 9 (((s).nodes).map Node.d), .row 48 5 (((s).vols).map Vol.d), .row 61 4 (((s).claims).map Claim.d), .row 71 2 (((s).classes).map Class.d), .row 78 3 (((s).budgets).map Budget.d)] = some (.agg [.sl 6 0 (s).pods.length, .sl 7 0 (s).nodes.length, .sl 8 0 (s).vols.length, .sl 9 0 (s).claims.length, .sl 10 0 (s).classes.length, .sl 11 0 (s).budgets.length], [.row 33 16 (((s).pods).map Pod.d), .row 36 9 (((s).nodes).map Node.d), .row 48 5 (((s).vols).map Vol.d), .row 61 4 (((s).claims).map Claim.d), .row 71 2 (((s).classes).map Class.d), .row 78 3 (((s).budgets).map Budget.d), .row 33 16 (((s).pods).map Pod.d), .row 36 9 (((s).nodes).map Node.d), .row 48 5 (((s).vols).map Vol.d), .row 61 4 (((s).claims).map Claim.d), .row 71 2 (((s).classes).map Class.d), .row 78 3 (((s).budgets).map Budget.d)]) := by
  unfold State.small Small at h
  obtain ⟨h1, h2, h3, h4, h5, h6⟩ := h
  have a1 := vcl87 (s.pods.map Pod.d) (all_Podd s.pods) (by simp; omega)
  have a2 := vcl88 (s.nodes.map Node.d) (all_Noded s.nodes) (by simp; omega)
  have a3 := vcl71 (s.vols.map Vol.d) (all_Vold s.vols) (by simp; omega)
  have a4 := vcl91 (s.claims.map Claim.d) (all_Claimd s.claims) (by simp; omega)
  have a5 := vcl89 (s.classes.map Class.d) (all_Classd s.classes) (by simp; omega)
  have a6 := vcl90 (s.budgets.map Budget.d) (all_Budgetd s.budgets) (by simp; omega)
  rw [List.length_map] at a1 a2 a3 a4 a5 a6
  simp only [u52, Tryz.f52, a1, a2, a3, a4, a5, a6, sm, tys, Nat.reduceAdd, Nat.reduceSub, Nat.reduceEqDiff, Nat.reduceLeDiff, Nat.reduceLT, Nat.reduceMul, Nat.reduceBEq, ↓reduceIte, reduceCtorEq, Int.reduceLT, Int.reduceLE, Int.reduceGT, Int.reduceGE, Int.reduceBEq, Int.reduceBNe, Int.reduceEq, Int.reduceNe, Int.reduceAdd, Int.reduceSub, Int.reduceMul, Int.reduceNeg, Int.reduceToNat]
def doApply (c : Claim) (v : Vol) : Option (Claim × Vol) := if c.vol ≠ [] ∨ v.claim ≠ [] ∨ v.cls ≠ c.cls ∨ v.size < c.size then none else some ({ c with vol := v.name }, { v with claim := c.name })
def doUndo (c : Claim) (v : Vol) : Option (Claim × Vol) := if c.vol ≠ v.name ∨ v.claim ≠ c.name then none else some ({ c with vol := [] }, { v with claim := [] })
set_option maxHeartbeats 4000000 in
theorem apply1_eq (cs : List Claim) (vs : List Vol) (i j : Nat) (x : Claim) (y : Vol) (hx : cs[i]? = some x) (hy : vs[j]? = some y) :
    v30 [.eptr 0 i 0, .eptr 1 j 0] [.row 61 4 ((cs).map Claim.d), .row 48 5 ((vs).map Vol.d)] = match doApply x y with
      | some (x', y') => some (.d (.bool true), [.row 61 4 (((cs.set i x')).map Claim.d), .row 48 5 (((vs.set j y')).map Vol.d)])
      | none => some (.d (.bool false), [.row 61 4 ((cs).map Claim.d), .row 48 5 ((vs).map Vol.d)]) := by
  unfold doApply
  by_cases e1 : x.vol = []
  · by_cases e2 : y.claim = []
    · by_cases e3 : y.cls = x.cls
      · by_cases e4 : y.size < x.size
        · rw [if_pos (by simp [e4])]
          simp only [u30, Tryz.f30, hx, hy, e1, e2, e3, e4, Claim.d, Vol.d, sm, tys, Nat.reduceAdd, Nat.reduceSub, Nat.reduceEqDiff, Nat.reduceLeDiff, Nat.reduceLT, Nat.reduceMul, Nat.reduceBEq, ↓reduceIte, reduceCtorEq, Int.reduceLT, Int.reduceLE, Int.reduceGT, Int.reduceGE, Int.reduceBEq, Int.reduceBNe, Int.reduceEq, Int.reduceNe, Int.reduceAdd, Int.reduceSub, Int.reduceMul, Int.reduceNeg, Int.reduceToNat]
        · rw [if_neg (by simp [e1, e2, e3, e4])]
          have s1 : (cs.map Claim.d).set i (Claim.d { x with vol := y.name }) = (cs.set i { x with vol := y.name }).map Claim.d := by rw [List.map_set]
          have s2 : (vs.map Vol.d).set j (Vol.d { y with claim := x.name }) = (vs.set j { y with claim := x.name }).map Vol.d := by rw [List.map_set]
          simp only [Claim.d, Vol.d, e3] at s1 s2
          simp only [u30, Tryz.f30, hx, hy, e1, e2, e3, e4, s1, s2, Claim.d, Vol.d, sm, tys, Nat.reduceAdd, Nat.reduceSub, Nat.reduceEqDiff, Nat.reduceLeDiff, Nat.reduceLT, Nat.reduceMul, Nat.reduceBEq, ↓reduceIte, reduceCtorEq, Int.reduceLT, Int.reduceLE, Int.reduceGT, Int.reduceGE, Int.reduceBEq, Int.reduceBNe, Int.reduceEq, Int.reduceNe, Int.reduceAdd, Int.reduceSub, Int.reduceMul, Int.reduceNeg, Int.reduceToNat]
      · rw [if_pos (by simp [e3])]
        simp only [u30, Tryz.f30, hx, hy, e1, e2, e3, Claim.d, Vol.d, sm, tys, Nat.reduceAdd, Nat.reduceSub, Nat.reduceEqDiff, Nat.reduceLeDiff, Nat.reduceLT, Nat.reduceMul, Nat.reduceBEq, ↓reduceIte, reduceCtorEq, Int.reduceLT, Int.reduceLE, Int.reduceGT, Int.reduceGE, Int.reduceBEq, Int.reduceBNe, Int.reduceEq, Int.reduceNe, Int.reduceAdd, Int.reduceSub, Int.reduceMul, Int.reduceNeg, Int.reduceToNat]
    · rw [if_pos (by simp [e2])]
      simp only [u30, Tryz.f30, hx, hy, e1, e2, Claim.d, Vol.d, sm, tys, Nat.reduceAdd, Nat.reduceSub, Nat.reduceEqDiff, Nat.reduceLeDiff, Nat.reduceLT, Nat.reduceMul, Nat.reduceBEq, ↓reduceIte, reduceCtorEq, Int.reduceLT, Int.reduceLE, Int.reduceGT, Int.reduceGE, Int.reduceBEq, Int.reduceBNe, Int.reduceEq, Int.reduceNe, Int.reduceAdd, Int.reduceSub, Int.reduceMul, Int.reduceNeg, Int.reduceToNat]
  · rw [if_pos (by simp [e1])]
    simp only [u30, Tryz.f30, hx, hy, e1, Claim.d, Vol.d, sm, tys, Nat.reduceAdd, Nat.reduceSub, Nat.reduceEqDiff, Nat.reduceLeDiff, Nat.reduceLT, Nat.reduceMul, Nat.reduceBEq, ↓reduceIte, reduceCtorEq, Int.reduceLT, Int.reduceLE, Int.reduceGT, Int.reduceGE, Int.reduceBEq, Int.reduceBNe, Int.reduceEq, Int.reduceNe, Int.reduceAdd, Int.reduceSub, Int.reduceMul, Int.reduceNeg, Int.reduceToNat]
set_option maxHeartbeats 4000000 in
theorem undo1_eq (cs : List Claim) (vs : List Vol) (i j : Nat) (x : Claim) (y : Vol) (hx : cs[i]? = some x) (hy : vs[j]? = some y) :
    v38 [.eptr 0 i 0, .eptr 1 j 0] [.row 61 4 ((cs).map Claim.d), .row 48 5 ((vs).map Vol.d)] = match doUndo x y with
      | some (x', y') => some (.d (.bool true), [.row 61 4 (((cs.set i x')).map Claim.d), .row 48 5 (((vs.set j y')).map Vol.d)])
      | none => some (.d (.bool false), [.row 61 4 ((cs).map Claim.d), .row 48 5 ((vs).map Vol.d)]) := by
  unfold doUndo
  by_cases e1 : x.vol = y.name
  · by_cases e2 : y.claim = x.name
    · rw [if_neg (by simp [e1, e2])]
      have s1 : (cs.map Claim.d).set i (Claim.d { x with vol := [] }) = (cs.set i { x with vol := [] }).map Claim.d := by rw [List.map_set]
      have s2 : (vs.map Vol.d).set j (Vol.d { y with claim := [] }) = (vs.set j { y with claim := [] }).map Vol.d := by rw [List.map_set]
      simp only [Claim.d, Vol.d] at s1 s2
      simp only [u38, Tryz.f38, hx, hy, e1, e2, s1, s2, Claim.d, Vol.d, sm, tys, Nat.reduceAdd, Nat.reduceSub, Nat.reduceEqDiff, Nat.reduceLeDiff, Nat.reduceLT, Nat.reduceMul, Nat.reduceBEq, ↓reduceIte, reduceCtorEq, Int.reduceLT, Int.reduceLE, Int.reduceGT, Int.reduceGE, Int.reduceBEq, Int.reduceBNe, Int.reduceEq, Int.reduceNe, Int.reduceAdd, Int.reduceSub, Int.reduceMul, Int.reduceNeg, Int.reduceToNat]
    · rw [if_pos (by simp [e2])]
      simp only [u38, Tryz.f38, hx, hy, e1, e2, Claim.d, Vol.d, sm, tys, Nat.reduceAdd, Nat.reduceSub, Nat.reduceEqDiff, Nat.reduceLeDiff, Nat.reduceLT, Nat.reduceMul, Nat.reduceBEq, ↓reduceIte, reduceCtorEq, Int.reduceLT, Int.reduceLE, Int.reduceGT, Int.reduceGE, Int.reduceBEq, Int.reduceBNe, Int.reduceEq, Int.reduceNe, Int.reduceAdd, Int.reduceSub, Int.reduceMul, Int.reduceNeg, Int.reduceToNat]
  · rw [if_pos (by simp [e1])]
    simp only [u38, Tryz.f38, hx, hy, e1, Claim.d, Vol.d, sm, tys, Nat.reduceAdd, Nat.reduceSub, Nat.reduceEqDiff, Nat.reduceLeDiff, Nat.reduceLT, Nat.reduceMul, Nat.reduceBEq, ↓reduceIte, reduceCtorEq, Int.reduceLT, Int.reduceLE, Int.reduceGT, Int.reduceGE, Int.reduceBEq, Int.reduceBNe, Int.reduceEq, Int.reduceNe, Int.reduceAdd, Int.reduceSub, Int.reduceMul, Int.reduceNeg, Int.reduceToNat]
end Go.Wm.Try1
namespace Go.Wm.Try1
open Go Go.Wm Go.Proofs
theorem fnd_lt {α : Type} {nm : α → Str} {l : List α} {s : Str} {i : Nat} (h : fnd nm l s = some i) : ∃ x, l[i]? = some x ∧ nm x = s := by
  unfold fnd at h
  rw [List.findIdx?_eq_some_iff_getElem] at h
  obtain ⟨hi, h1, _⟩ := h
  exact ⟨l[i], by simp [hi], by simpa using h1⟩
/-- picks, one behind the other: .inr: why not -/
def eachL (do1 : Claim → Vol → Option (Claim × Vol)) : List Pick → List Claim → List Vol → (List Claim × List Vol) ⊕ Int
  | [], cs, vs => .inl (cs, vs)
  | p :: ps, cs, vs =>
    match fnd Claim.name cs p.claim, fnd Vol.name vs p.vol with
    | some c, some v =>
      match cs[c]?, vs[v]? with
      | some x, some y => match do1 x y with
        | some (x', y') => eachL do1 ps (cs.set c x') (vs.set v y')
        | none => .inr 2
      | _, _ => .inr 5
    | _, _ => .inr 5
theorem eachL_len (do1 : Claim → Vol → Option (Claim × Vol)) : ∀ (ps : List Pick) (cs : List Claim) (vs : List Vol) (cs1 : List Claim) (vs1 : List Vol), eachL do1 ps cs vs = .inl (cs1, vs1) → cs1.length = cs.length ∧ vs1.length = vs.length
  | [], cs, vs, cs1, vs1, h => by
    simp only [eachL] at h
    cases h
    exact ⟨rfl, rfl⟩
  | p :: ps, cs, vs, cs1, vs1, h => by
    simp only [eachL] at h
    split at h
    · split at h
      · split at h
        · have := eachL_len do1 ps _ _ _ _ h
          simpa using this
        · cases h
      · cases h
    · cases h
set_option maxHeartbeats 8000000 in
theorem ap_data_loop {bd : Code} (hb : bd = bodyAt Tryz.f29 3) (s : State) (l : List Pick) (hl : Small l) (hs : s.small) : ∀ (k i : Nat) (cs : List Claim) (vs : List Vol), i + k = l.length → cs.length = s.claims.length → vs.length = s.vols.length →
    match eachL doApply (l.drop i) cs vs with
      | .inl (cs', vs') => evLoop (E29 [(30, v30)]) 0 bd [(2, .d (.fn (.func 30))), (6, .ptr 0 0), (8, .ptr 1 0), (15, .d (.sl (l.map Pick.d))), (16, .d (.int .i64 (l.length))), (17, .d (.int .i64 ((i : Int))))] [.box [.nil, .nil, .nil, .nil, .nil, .nil], .box [.sl 2 0 s.pods.length, .sl 3 0 s.nodes.length, .sl 4 0 s.vols.length, .sl 5 0 s.claims.length, .sl 6 0 s.classes.length, .sl 7 0 s.budgets.length], .row 33 16 ((s.pods).map Pod.d), .row 36 9 ((s.nodes).map Node.d), .row 48 5 ((vs).map Vol.d), .row 61 4 ((cs).map Claim.d), .row 71 2 ((s.classes).map Class.d), .row 78 3 ((s.budgets).map Budget.d)] = some ([(2, .d (.fn (.func 30))), (6, .ptr 0 0), (8, .ptr 1 0), (15, .d (.sl (l.map Pick.d))), (16, .d (.int .i64 (l.length))), (17, .d (.int .i64 (l.length))), (18, .d (.bool false))], [.box [.nil, .nil, .nil, .nil, .nil, .nil], .box [.sl 2 0 s.pods.length, .sl 3 0 s.nodes.length, .sl 4 0 s.vols.length, .sl 5 0 s.claims.length, .sl 6 0 s.classes.length, .sl 7 0 s.budgets.length], .row 33 16 ((s.pods).map Pod.d), .row 36 9 ((s.nodes).map Node.d), .row 48 5 ((vs').map Vol.d), .row 61 4 ((cs').map Claim.d), .row 71 2 ((s.classes).map Class.d), .row 78 3 ((s.budgets).map Budget.d)], .exit 0)
      | .inr e => ∃ rest, evLoop (E29 [(30, v30)]) 0 bd [(2, .d (.fn (.func 30))), (6, .ptr 0 0), (8, .ptr 1 0), (15, .d (.sl (l.map Pick.d))), (16, .d (.int .i64 (l.length))), (17, .d (.int .i64 ((i : Int))))] [.box [.nil, .nil, .nil, .nil, .nil, .nil], .box [.sl 2 0 s.pods.length, .sl 3 0 s.nodes.length, .sl 4 0 s.vols.length, .sl 5 0 s.claims.length, .sl 6 0 s.classes.length, .sl 7 0 s.budgets.length], .row 33 16 ((s.pods).map Pod.d), .row 36 9 ((s.nodes).map Node.d), .row 48 5 ((vs).map Vol.d), .row 61 4 ((cs).map Claim.d), .row 71 2 ((s.classes).map Class.d), .row 78 3 ((s.budgets).map Budget.d)] = some ([(6, .ptr 0 0), (7, .d (.int .i64 (e)))], [.box [.nil, .nil, .nil, .nil, .nil, .nil]] ++ rest, .ret) := by
  simp only [bodyAt, bodyOf, loop_seq, loop_cond, loop_block, loop_loop, loop_region, loop_skip, loop_ret, loop_exit, orE_some, orE_none, Code.first, Option.getD_some, Nat.reduceEqDiff, ↓reduceIte, Tryz.f29] at hb
  subst hb
  unfold Small at hl
  unfold State.small Small at hs
  obtain ⟨_, _, hs3, hs4, _, _⟩ := hs
  intro k
  induction k with
  | zero =>
    intro i cs vs hk hc hv
    have hi : (i : Int) = (l.length : Int) := by omega
    have hd : l.drop i = [] := by rw [List.drop_eq_nil_iff]; omega
    rw [hd]
    simp only [eachL]
    rw [c_round]
    simp only [u29, Tryz.f29, hi, Int.lt_irrefl, sm, tys, Nat.reduceAdd, Nat.reduceSub, Nat.reduceEqDiff, Nat.reduceLeDiff, Nat.reduceLT, Nat.reduceMul, Nat.reduceBEq, ↓reduceIte, reduceCtorEq, Int.reduceLT, Int.reduceLE, Int.reduceGT, Int.reduceGE, Int.reduceBEq, Int.reduceBNe, Int.reduceEq, Int.reduceNe, Int.reduceAdd, Int.reduceSub, Int.reduceMul, Int.reduceNeg, Int.reduceToNat]
  | succ k ih =>
    intro i cs vs hk hc hv
    have hi : (i : Int) < (l.length : Int) := by omega
    have h0 : 0 ≤ (i : Int) := by omega
    have hlt : i < l.length := by omega
    have hci : l[i]? = some l[i] := by simp [hlt]
    have hd : l.drop i = l[i] :: l.drop (i + 1) := List.drop_eq_getElem_cons hlt
    generalize l[i] = p at hci hd
    have hw : IntKind.i64.wrap ((i : Int) + 1) = ((i + 1 : Nat) : Int) := by rw [wrap_i64 (by omega) (by omega)]; omega
    have hb1 := fun cl => by_Claim cl cs (by unfold Small; omega) p.claim
    have hb2 := fun cl => by_Vol cl vs (by unfold Small; omega) p.vol
    have ht1 := List.take_length (l := cs.map Claim.d)
    have ht2 := List.take_length (l := vs.map Vol.d)
    rw [List.length_map] at ht1 ht2
    rw [hc] at ht1
    rw [hv] at ht2
    rw [hd]
    simp only [eachL]
    cases h1 : fnd Claim.name cs p.claim with
    | none =>
      rw [h1] at hb1
      simp only [idx] at hb1
      cases h2 : fnd Vol.name vs p.vol with
      | none =>
        rw [h2] at hb2
        simp only [idx] at hb2
        simp only
        rw [c_round]
        simp only [u29, Tryz.f29, hi, h0, hci, hw, hb1, hb2, ht1, ht2, Pick.d, sm, tys, Nat.reduceAdd, Nat.reduceSub, Nat.reduceEqDiff, Nat.reduceLeDiff, Nat.reduceLT, Nat.reduceMul, Nat.reduceBEq, ↓reduceIte, reduceCtorEq, Int.reduceLT, Int.reduceLE, Int.reduceGT, Int.reduceGE, Int.reduceBEq, Int.reduceBNe, Int.reduceEq, Int.reduceNe, Int.reduceAdd, Int.reduceSub, Int.reduceMul, Int.reduceNeg, Int.reduceToNat]
        exact ⟨_, rfl⟩
      | some v =>
        rw [h2] at hb2
        simp only [idx] at hb2
        simp only
        rw [c_round]
        simp only [u29, Tryz.f29, hi, h0, hci, hw, hb1, hb2, ht1, ht2, Pick.d, sm, tys, Nat.reduceAdd, Nat.reduceSub, Nat.reduceEqDiff, Nat.reduceLeDiff, Nat.reduceLT, Nat.reduceMul, Nat.reduceBEq, ↓reduceIte, reduceCtorEq, Int.reduceLT, Int.reduceLE, Int.reduceGT, Int.reduceGE, Int.reduceBEq, Int.reduceBNe, Int.reduceEq, Int.reduceNe, Int.reduceAdd, Int.reduceSub, Int.reduceMul, Int.reduceNeg, Int.reduceToNat]
        exact ⟨_, rfl⟩
    | some c =>
      rw [h1] at hb1
      simp only [idx] at hb1
      obtain ⟨x, hx, _⟩ := fnd_lt h1
      have hcl : c < cs.length := (List.getElem?_eq_some_iff.1 hx).1
      have c0 : ¬ (c : Int) < 0 := by omega
      have c1 : (0 : Int) ≤ (c : Int) := by omega
      have c2 : (c : Int) < (s.claims.length : Int) := by omega
      cases h2 : fnd Vol.name vs p.vol with
      | none =>
        rw [h2] at hb2
        simp only [idx] at hb2
        simp only
        rw [c_round]
        simp only [u29, Tryz.f29, hi, h0, hci, hw, hb1, hb2, ht1, ht2, c0, Pick.d, sm, tys, Nat.reduceAdd, Nat.reduceSub, Nat.reduceEqDiff, Nat.reduceLeDiff, Nat.reduceLT, Nat.reduceMul, Nat.reduceBEq, ↓reduceIte, reduceCtorEq, Int.reduceLT, Int.reduceLE, Int.reduceGT, Int.reduceGE, Int.reduceBEq, Int.reduceBNe, Int.reduceEq, Int.reduceNe, Int.reduceAdd, Int.reduceSub, Int.reduceMul, Int.reduceNeg, Int.reduceToNat]
        exact ⟨_, rfl⟩
      | some v =>
        rw [h2] at hb2
        simp only [idx] at hb2
        obtain ⟨y, hy, _⟩ := fnd_lt h2
        have hvl : v < vs.length := (List.getElem?_eq_some_iff.1 hy).1
        have v0 : ¬ (v : Int) < 0 := by omega
        have v1 : (0 : Int) ≤ (v : Int) := by omega
        have v2 : (v : Int) < (s.vols.length : Int) := by omega
        have hdo := apply1_eq cs vs c v x y hx hy
        simp only
        rw [hx, hy]
        simp only
        cases hdo1 : doApply x y with
        | none =>
          rw [hdo1] at hdo
          simp only at hdo
          simp only
          rw [c_round]
          simp only [u29, Tryz.f29, hi, h0, hci, hw, hb1, hb2, ht1, ht2, c0, c1, c2, v0, v1, v2, hx, hy, hdo, Pick.d, sm, tys, Nat.reduceAdd, Nat.reduceSub, Nat.reduceEqDiff, Nat.reduceLeDiff, Nat.reduceLT, Nat.reduceMul, Nat.reduceBEq, ↓reduceIte, reduceCtorEq, Int.reduceLT, Int.reduceLE, Int.reduceGT, Int.reduceGE, Int.reduceBEq, Int.reduceBNe, Int.reduceEq, Int.reduceNe, Int.reduceAdd, Int.reduceSub, Int.reduceMul, Int.reduceNeg, Int.reduceToNat]
          exact ⟨_, rfl⟩
        | some q =>
          obtain ⟨x', y'⟩ := q
          rw [hdo1] at hdo
          simp only at hdo
          have hih := ih (i + 1) (cs.set c x') (vs.set v y') (by omega) (by simpa using hc) (by simpa using hv)
          simp only
          rw [c_round]
          simp only [u29, Tryz.f29, hi, h0, hci, hw, hb1, hb2, ht1, ht2, c0, c1, c2, v0, v1, v2, hx, hy, hdo, Pick.d, sm, tys, Nat.reduceAdd, Nat.reduceSub, Nat.reduceEqDiff, Nat.reduceLeDiff, Nat.reduceLT, Nat.reduceMul, Nat.reduceBEq, ↓reduceIte, reduceCtorEq, Int.reduceLT, Int.reduceLE, Int.reduceGT, Int.reduceGE, Int.reduceBEq, Int.reduceBNe, Int.reduceEq, Int.reduceNe, Int.reduceAdd, Int.reduceSub, Int.reduceMul, Int.reduceNeg, Int.reduceToNat]
          simp only [List.cons_append, List.nil_append] at hih
          exact hih
set_option maxHeartbeats 8000000 in
theorem un_data_loop {bd : Code} (hb : bd = bodyAt Tryz.f29 3) (s : State) (l : List Pick) (hl : Small l) (hs : s.small) : ∀ (k i : Nat) (cs : List Claim) (vs : List Vol), i + k = l.length → cs.length = s.claims.length → vs.length = s.vols.length →
    match eachL doUndo (l.drop i) cs vs with
      | .inl (cs', vs') => evLoop (E29 [(38, v38)]) 0 bd [(2, .d (.fn (.func 38))), (6, .ptr 0 0), (8, .ptr 1 0), (15, .d (.sl (l.map Pick.d))), (16, .d (.int .i64 (l.length))), (17, .d (.int .i64 ((i : Int))))] [.box [.nil, .nil, .nil, .nil, .nil, .nil], .box [.sl 2 0 s.pods.length, .sl 3 0 s.nodes.length, .sl 4 0 s.vols.length, .sl 5 0 s.claims.length, .sl 6 0 s.classes.length, .sl 7 0 s.budgets.length], .row 33 16 ((s.pods).map Pod.d), .row 36 9 ((s.nodes).map Node.d), .row 48 5 ((vs).map Vol.d), .row 61 4 ((cs).map Claim.d), .row 71 2 ((s.classes).map Class.d), .row 78 3 ((s.budgets).map Budget.d)] = some ([(2, .d (.fn (.func 38))), (6, .ptr 0 0), (8, .ptr 1 0), (15, .d (.sl (l.map Pick.d))), (16, .d (.int .i64 (l.length))), (17, .d (.int .i64 (l.length))), (18, .d (.bool false))], [.box [.nil, .nil, .nil, .nil, .nil, .nil], .box [.sl 2 0 s.pods.length, .sl 3 0 s.nodes.length, .sl 4 0 s.vols.length, .sl 5 0 s.claims.length, .sl 6 0 s.classes.length, .sl 7 0 s.budgets.length], .row 33 16 ((s.pods).map Pod.d), .row 36 9 ((s.nodes).map Node.d), .row 48 5 ((vs').map Vol.d), .row 61 4 ((cs').map Claim.d), .row 71 2 ((s.classes).map Class.d), .row 78 3 ((s.budgets).map Budget.d)], .exit 0)
      | .inr e => ∃ rest, evLoop (E29 [(38, v38)]) 0 bd [(2, .d (.fn (.func 38))), (6, .ptr 0 0), (8, .ptr 1 0), (15, .d (.sl (l.map Pick.d))), (16, .d (.int .i64 (l.length))), (17, .d (.int .i64 ((i : Int))))] [.box [.nil, .nil, .nil, .nil, .nil, .nil], .box [.sl 2 0 s.pods.length, .sl 3 0 s.nodes.length, .sl 4 0 s.vols.length, .sl 5 0 s.claims.length, .sl 6 0 s.classes.length, .sl 7 0 s.budgets.length], .row 33 16 ((s.pods).map Pod.d), .row 36 9 ((s.nodes).map Node.d), .row 48 5 ((vs).map Vol.d), .row 61 4 ((cs).map Claim.d), .row 71 2 ((s.classes).map Class.d), .row 78 3 ((s.budgets).map Budget.d)] = some ([(6, .ptr 0 0), (7, .d (.int .i64 (e)))], [.box [.nil, .nil, .nil, .nil, .nil, .nil]] ++ rest, .ret) := by
  simp only [bodyAt, bodyOf, loop_seq, loop_cond, loop_block, loop_loop, loop_region, loop_skip, loop_ret, loop_exit, orE_some, orE_none, Code.first, Option.getD_some, Nat.reduceEqDiff, ↓reduceIte, Tryz.f29] at hb
  subst hb
  unfold Small at hl
  unfold State.small Small at hs
  obtain ⟨_, _, hs3, hs4, _, _⟩ := hs
  intro k
  induction k with
  | zero =>
    intro i cs vs hk hc hv
    have hi : (i : Int) = (l.length : Int) := by omega
    have hd : l.drop i = [] := by rw [List.drop_eq_nil_iff]; omega
    rw [hd]
    simp only [eachL]
    rw [c_round]
    simp only [u29, Tryz.f29, hi, Int.lt_irrefl, sm, tys, Nat.reduceAdd, Nat.reduceSub, Nat.reduceEqDiff, Nat.reduceLeDiff, Nat.reduceLT, Nat.reduceMul, Nat.reduceBEq, ↓reduceIte, reduceCtorEq, Int.reduceLT, Int.reduceLE, Int.reduceGT, Int.reduceGE, Int.reduceBEq, Int.reduceBNe, Int.reduceEq, Int.reduceNe, Int.reduceAdd, Int.reduceSub, Int.reduceMul, Int.reduceNeg, Int.reduceToNat]
  | succ k ih =>
    intro i cs vs hk hc hv
    have hi : (i : Int) < (l.length : Int) := by omega
    have h0 : 0 ≤ (i : Int) := by omega
    have hlt : i < l.length := by omega
    have hci : l[i]? = some l[i] := by simp [hlt]
    have hd : l.drop i = l[i] :: l.drop (i + 1) := List.drop_eq_getElem_cons hlt
    generalize l[i] = p at hci hd
    have hw : IntKind.i64.wrap ((i : Int) + 1) = ((i + 1 : Nat) : Int) := by rw [wrap_i64 (by omega) (by omega)]; omega
    have hb1 := fun cl => by_Claim cl cs (by unfold Small; omega) p.claim
    have hb2 := fun cl => by_Vol cl vs (by unfold Small; omega) p.vol
    have ht1 := List.take_length (l := cs.map Claim.d)
    have ht2 := List.take_length (l := vs.map Vol.d)
    rw [List.length_map] at ht1 ht2
    rw [hc] at ht1
    rw [hv] at ht2
    rw [hd]
    simp only [eachL]
    cases h1 : fnd Claim.name cs p.claim with
    | none =>
      rw [h1] at hb1
      simp only [idx] at hb1
      cases h2 : fnd Vol.name vs p.vol with
      | none =>
        rw [h2] at hb2
        simp only [idx] at hb2
        simp only
        rw [c_round]
        simp only [u29, Tryz.f29, hi, h0, hci, hw, hb1, hb2, ht1, ht2, Pick.d, sm, tys, Nat.reduceAdd, Nat.reduceSub, Nat.reduceEqDiff, Nat.reduceLeDiff, Nat.reduceLT, Nat.reduceMul, Nat.reduceBEq, ↓reduceIte, reduceCtorEq, Int.reduceLT, Int.reduceLE, Int.reduceGT, Int.reduceGE, Int.reduceBEq, Int.reduceBNe, Int.reduceEq, Int.reduceNe, Int.reduceAdd, Int.reduceSub, Int.reduceMul, Int.reduceNeg, Int.reduceToNat]
        exact ⟨_, rfl⟩
      | some v =>
        rw [h2] at hb2
        simp only [idx] at hb2
        simp only
        rw [c_round]
        simp only [u29, Tryz.f29, hi, h0, hci, hw, hb1, hb2, ht1, ht2, Pick.d, sm, tys, Nat.reduceAdd, Nat.reduceSub, Nat.reduceEqDiff, Nat.reduceLeDiff, Nat.reduceLT, Nat.reduceMul, Nat.reduceBEq, ↓reduceIte, reduceCtorEq, Int.reduceLT, Int.reduceLE, Int.reduceGT, Int.reduceGE, Int.reduceBEq, Int.reduceBNe, Int.reduceEq, Int.reduceNe, Int.reduceAdd, Int.reduceSub, Int.reduceMul, Int.reduceNeg, Int.reduceToNat]
        exact ⟨_, rfl⟩
    | some c =>
      rw [h1] at hb1
      simp only [idx] at hb1
      obtain ⟨x, hx, _⟩ := fnd_lt h1
      have hcl : c < cs.length := (List.getElem?_eq_some_iff.1 hx).1
      have c0 : ¬ (c : Int) < 0 := by omega
      have c1 : (0 : Int) ≤ (c : Int) := by omega
      have c2 : (c : Int) < (s.claims.length : Int) := by omega
      cases h2 : fnd Vol.name vs p.vol with
      | none =>
        rw [h2] at hb2
        simp only [idx] at hb2
        simp only
        rw [c_round]
        simp only [u29, Tryz.f29, hi, h0, hci, hw, hb1, hb2, ht1, ht2, c0, Pick.d, sm, tys, Nat.reduceAdd, Nat.reduceSub, Nat.reduceEqDiff, Nat.reduceLeDiff, Nat.reduceLT, Nat.reduceMul, Nat.reduceBEq, ↓reduceIte, reduceCtorEq, Int.reduceLT, Int.reduceLE, Int.reduceGT, Int.reduceGE, Int.reduceBEq, Int.reduceBNe, Int.reduceEq, Int.reduceNe, Int.reduceAdd, Int.reduceSub, Int.reduceMul, Int.reduceNeg, Int.reduceToNat]
        exact ⟨_, rfl⟩
      | some v =>
        rw [h2] at hb2
        simp only [idx] at hb2
        obtain ⟨y, hy, _⟩ := fnd_lt h2
        have hvl : v < vs.length := (List.getElem?_eq_some_iff.1 hy).1
        have v0 : ¬ (v : Int) < 0 := by omega
        have v1 : (0 : Int) ≤ (v : Int) := by omega
        have v2 : (v : Int) < (s.vols.length : Int) := by omega
        have hdo := undo1_eq cs vs c v x y hx hy
        simp only
        rw [hx, hy]
        simp only
        cases hdo1 : doUndo x y with
        | none =>
          rw [hdo1] at hdo
          simp only at hdo
          simp only
          rw [c_round]
          simp only [u29, Tryz.f29, hi, h0, hci, hw, hb1, hb2, ht1, ht2, c0, c1, c2, v0, v1, v2, hx, hy, hdo, Pick.d, sm, tys, Nat.reduceAdd, Nat.reduceSub, Nat.reduceEqDiff, Nat.reduceLeDiff, Nat.reduceLT, Nat.reduceMul, Nat.reduceBEq, ↓reduceIte, reduceCtorEq, Int.reduceLT, Int.reduceLE, Int.reduceGT, Int.reduceGE, Int.reduceBEq, Int.reduceBNe, Int.reduceEq, Int.reduceNe, Int.reduceAdd, Int.reduceSub, Int.reduceMul, Int.reduceNeg, Int.reduceToNat]
          exact ⟨_, rfl⟩
        | some q =>
          obtain ⟨x', y'⟩ := q
          rw [hdo1] at hdo
          simp only at hdo
          have hih := ih (i + 1) (cs.set c x') (vs.set v y') (by omega) (by simpa using hc) (by simpa using hv)
          simp only
          rw [c_round]
          simp only [u29, Tryz.f29, hi, h0, hci, hw, hb1, hb2, ht1, ht2, c0, c1, c2, v0, v1, v2, hx, hy, hdo, Pick.d, sm, tys, Nat.reduceAdd, Nat.reduceSub, Nat.reduceEqDiff, Nat.reduceLeDiff, Nat.reduceLT, Nat.reduceMul, Nat.reduceBEq, ↓reduceIte, reduceCtorEq, Int.reduceLT, Int.reduceLE, Int.reduceGT, Int.reduceGE, Int.reduceBEq, Int.reduceBNe, Int.reduceEq, Int.reduceNe, Int.reduceAdd, Int.reduceSub, Int.reduceMul, Int.reduceNeg, Int.reduceToNat]
          simp only [List.cons_append, List.nil_append] at hih
          exact hih
end Go.Wm.Try1
namespace Go.Wm.Try1
open Go Go.Wm Go.Proofs
def State.put (s : State) (cs : List Claim) (vs : List Vol) : State := { s with claims := cs, vols := vs }
set_option maxHeartbeats 4000000 in
theorem apply_eq (s : State) (hs : s.small) (l : List Pick) (hl : Small l) : v12 [.d s.d, .d (.sl (l.map Pick.d))] [] = match eachL doApply l s.claims s.vols with
    | .inl (cs, vs) => some (.tup [.agg [.sl 0 0 ((s.put cs vs)).pods.length, .sl 1 0 ((s.put cs vs)).nodes.length, .sl 2 0 ((s.put cs vs)).vols.length, .sl 3 0 ((s.put cs vs)).claims.length, .sl 4 0 ((s.put cs vs)).classes.length, .sl 5 0 ((s.put cs vs)).budgets.length], .d (.int .i64 (0))], [.row 33 16 ((((s.put cs vs)).pods).map Pod.d), .row 36 9 ((((s.put cs vs)).nodes).map Node.d), .row 48 5 ((((s.put cs vs)).vols).map Vol.d), .row 61 4 ((((s.put cs vs)).claims).map Claim.d), .row 71 2 ((((s.put cs vs)).classes).map Class.d), .row 78 3 ((((s.put cs vs)).budgets).map Budget.d)])
    | .inr e => some (.tup [.agg [.nil, .nil, .nil, .nil, .nil, .nil], .d (.int .i64 (e))], []) := by
  have ho := own_data s hs
  simp only [State.d, State.cs] at ho
  have h := ap_data_loop (bd := bodyAt Tryz.f29 3) rfl s l hl hs l.length 0 s.claims s.vols (by omega) rfl rfl
  rw [List.drop_zero] at h
  have hlen := eachL_len doApply l s.claims s.vols
  cases e : eachL doApply l s.claims s.vols with
  | inl q =>
    obtain ⟨cs, vs⟩ := q
    obtain ⟨q1, q2⟩ := hlen cs vs e
    rw [e] at h
    simp only at h ⊢
    simp only [bodyAt, bodyOf, loop_seq, loop_cond, loop_block, loop_loop, loop_region, loop_skip, loop_ret, loop_exit, orE_some, orE_none, Code.first, Option.getD_some, Nat.reduceEqDiff, ↓reduceIte, Tryz.f29] at h
    simp only [Int.cast_ofNat_Int] at h
    simp only [u12, Tryz.f12, u29, Tryz.f29, State.d, State.cs, ho, h, State.put, q1, q2, sm, tys, Nat.reduceAdd, Nat.reduceSub, Nat.reduceEqDiff, Nat.reduceLeDiff, Nat.reduceLT, Nat.reduceMul, Nat.reduceBEq, ↓reduceIte, reduceCtorEq, Int.reduceLT, Int.reduceLE, Int.reduceGT, Int.reduceGE, Int.reduceBEq, Int.reduceBNe, Int.reduceEq, Int.reduceNe, Int.reduceAdd, Int.reduceSub, Int.reduceMul, Int.reduceNeg, Int.reduceToNat]
  | inr err =>
    rw [e] at h
    simp only at h ⊢
    simp only [bodyAt, bodyOf, loop_seq, loop_cond, loop_block, loop_loop, loop_region, loop_skip, loop_ret, loop_exit, orE_some, orE_none, Code.first, Option.getD_some, Nat.reduceEqDiff, ↓reduceIte, Tryz.f29] at h
    simp only [Int.cast_ofNat_Int] at h
    obtain ⟨rest, h⟩ := h
    simp only [u12, Tryz.f12, u29, Tryz.f29, State.d, State.cs, ho, h, sm, tys, Nat.reduceAdd, Nat.reduceSub, Nat.reduceEqDiff, Nat.reduceLeDiff, Nat.reduceLT, Nat.reduceMul, Nat.reduceBEq, ↓reduceIte, reduceCtorEq, Int.reduceLT, Int.reduceLE, Int.reduceGT, Int.reduceGE, Int.reduceBEq, Int.reduceBNe, Int.reduceEq, Int.reduceNe, Int.reduceAdd, Int.reduceSub, Int.reduceMul, Int.reduceNeg, Int.reduceToNat]
end Go.Wm.Try1
namespace Go.Wm.Try1
open Go Go.Wm Go.Proofs
/-- the first i, and the last i, are turned -/
def Turned (l xs : List Pick) (i : Nat) : Prop := xs.length = l.length ∧ ∀ k, k < l.length → xs[k]? = if k < i ∨ l.length - i ≤ k then l[l.length - 1 - k]? else l[k]?
theorem turned_done (l xs : List Pick) (i : Nat) (h : Turned l xs i) (hi : l.length ≤ 2 * i + 1) : xs = l.reverse := by
  obtain ⟨h1, h2⟩ := h
  apply List.ext_getElem?
  intro k
  by_cases hk : k < l.length
  · rw [h2 k hk, List.getElem?_reverse hk]
    by_cases hc : k < i ∨ l.length - i ≤ k
    · rw [if_pos hc]
    · rw [if_neg hc]
      have : l.length - 1 - k = k := by omega
      rw [this]
  · rw [List.getElem?_eq_none (by omega), List.getElem?_eq_none (by simp; omega)]
theorem turned_step (l xs : List Pick) (i : Nat) (h : Turned l xs i) (hi : 2 * i + 1 < l.length) (x y : Pick) (hx : xs[i]? = some x) (hy : xs[l.length - 1 - i]? = some y) : Turned l ((xs.set i y).set (l.length - 1 - i) x) (i + 1) := by
  obtain ⟨h1, h2⟩ := h
  refine ⟨by simp [h1], fun k hk => ?_⟩
  have gx := h2 i (by omega)
  have gy := h2 (l.length - 1 - i) (by omega)
  rw [if_neg (by omega), hx] at gx
  rw [if_neg (by omega), hy] at gy
  rw [List.getElem?_set, List.getElem?_set]
  by_cases c1 : l.length - 1 - i = k
  · subst c1
    rw [if_pos rfl, if_pos (by simp; omega), if_pos (by omega)]
    have : l.length - 1 - (l.length - 1 - i) = i := by omega
    rw [this, gx]
  · rw [if_neg c1]
    by_cases c2 : i = k
    · subst c2
      rw [if_pos rfl, if_pos (by omega), if_pos (by omega), gy]
    · rw [if_neg c2, h2 k hk]
      by_cases c3 : k < i ∨ l.length - i ≤ k
      · rw [if_pos c3, if_pos (by omega)]
      · rw [if_neg c3, if_neg (by omega)]
set_option maxHeartbeats 4000000 in
theorem rev_loop {bd : Code} (hb : bd = bodyAt Tryz.f37 1) (l : List Pick) (hl : Small l) : ∀ (f i : Nat) (xs : List Pick), l.length ≤ 2 * i + f → i ≤ l.length → Turned l xs i →
    ∃ T, evLoop E37 1 bd [(0, .sl 0 0 l.length), (2, .d (.int .i64 ((i : Int)))), (3, .d (.int .i64 (((l.length : Int) - 1 - (i : Int)))))] [.row 67 2 ((xs).map Pick.d)] = some (T, [.row 67 2 ((l.reverse).map Pick.d)], .exit 0) := by
  simp only [bodyAt, bodyOf, loop_seq, loop_cond, loop_block, loop_loop, loop_region, loop_skip, loop_ret, loop_exit, orE_some, orE_none, Code.first, Option.getD_some, Nat.reduceEqDiff, ↓reduceIte, Tryz.f37] at hb
  subst hb
  unfold Small at hl
  intro f
  induction f with
  | zero =>
    intro i xs hf hi ht
    have e := turned_done l xs i ht (by omega)
    have hc : ¬ (i : Int) < (l.length : Int) - 1 - (i : Int) := by omega
    rw [c_round, e]
    simp only [u37, Tryz.f37, hc, sm, tys, Nat.reduceAdd, Nat.reduceSub, Nat.reduceEqDiff, Nat.reduceLeDiff, Nat.reduceLT, Nat.reduceMul, Nat.reduceBEq, ↓reduceIte, reduceCtorEq, Int.reduceLT, Int.reduceLE, Int.reduceGT, Int.reduceGE, Int.reduceBEq, Int.reduceBNe, Int.reduceEq, Int.reduceNe, Int.reduceAdd, Int.reduceSub, Int.reduceMul, Int.reduceNeg, Int.reduceToNat]
    exact ⟨_, rfl⟩
  | succ f ih =>
    intro i xs hf hi ht
    by_cases hc : (i : Int) < (l.length : Int) - 1 - (i : Int)
    · have h2 : 2 * i + 1 < l.length := by omega
      have hxl := ht.1
      have hil : i < xs.length := by omega
      have hjl : l.length - 1 - i < xs.length := by omega
      have hx : xs[i]? = some xs[i] := by simp [hil]
      have hy : xs[l.length - 1 - i]? = some xs[l.length - 1 - i] := by simp [hjl]
      generalize xs[i] = x at hx
      generalize xs[l.length - 1 - i] = y at hy
      have hst := turned_step l xs i ht h2 x y hx hy
      obtain ⟨T, hih⟩ := ih (i + 1) _ (by omega) (by omega) hst
      refine ⟨T, ?_⟩
      have ej : ((l.length : Int) - 1 - (i : Int)).toNat = l.length - 1 - i := by omega
      have hi0 : (0 : Int) ≤ (i : Int) := by omega
      have hi1 : (i : Int) < (l.length : Int) := by omega
      have hj0 : (0 : Int) ≤ (l.length : Int) - 1 - (i : Int) := by omega
      have hj1 : (l.length : Int) - 1 - (i : Int) < (l.length : Int) := by omega
      have hw1 : IntKind.i64.wrap ((i : Int) + 1) = ((i + 1 : Nat) : Int) := by rw [wrap_i64 (by omega) (by omega)]; omega
      have hw2 : IntKind.i64.wrap ((l.length : Int) - 1 - (i : Int) - 1) = (l.length : Int) - 1 - ((i + 1 : Nat) : Int) := by rw [wrap_i64 (by omega) (by omega)]; omega
      have hs : (((xs.set i y).set (l.length - 1 - i) x).map Pick.d) = ((xs.map Pick.d).set i (Pick.d y)).set (l.length - 1 - i) (Pick.d x) := by rw [List.map_set, List.map_set]
      have hset : ((xs.map Pick.d).set i (Pick.d y))[l.length - 1 - i]? = some (Pick.d y) := by rw [List.getElem?_set, if_neg (by omega), List.getElem?_map, hy]; rfl
      simp only [Pick.d] at hset
      rw [← hih, c_round, hs]
      simp only [u37, Tryz.f37, hc, ej, hi0, hi1, hj0, hj1, hw1, hw2, hx, hy, hset, Pick.d, sm, tys, Nat.reduceAdd, Nat.reduceSub, Nat.reduceEqDiff, Nat.reduceLeDiff, Nat.reduceLT, Nat.reduceMul, Nat.reduceBEq, ↓reduceIte, reduceCtorEq, Int.reduceLT, Int.reduceLE, Int.reduceGT, Int.reduceGE, Int.reduceBEq, Int.reduceBNe, Int.reduceEq, Int.reduceNe, Int.reduceAdd, Int.reduceSub, Int.reduceMul, Int.reduceNeg, Int.reduceToNat]
    · have e := turned_done l xs i ht (by omega)
      rw [c_round, e]
      simp only [u37, Tryz.f37, hc, sm, tys, Nat.reduceAdd, Nat.reduceSub, Nat.reduceEqDiff, Nat.reduceLeDiff, Nat.reduceLT, Nat.reduceMul, Nat.reduceBEq, ↓reduceIte, reduceCtorEq, Int.reduceLT, Int.reduceLE, Int.reduceGT, Int.reduceGE, Int.reduceBEq, Int.reduceBNe, Int.reduceEq, Int.reduceNe, Int.reduceAdd, Int.reduceSub, Int.reduceMul, Int.reduceNeg, Int.reduceToNat]
      exact ⟨_, rfl⟩
set_option maxHeartbeats 4000000 in
theorem reverse_eq (l : List Pick) (hl : Small l) : v37 [.sl 0 0 l.length] [.row 67 2 ((l).map Pick.d)] = some (.tup [], [.row 67 2 ((l.reverse).map Pick.d)]) := by
  obtain ⟨T, h⟩ := rev_loop (bd := bodyAt Tryz.f37 1) rfl l hl l.length 0 l (by omega) (by omega) ⟨rfl, fun k hk => by rw [if_neg (by omega)]⟩
  unfold Small at hl
  have hw : IntKind.i64.wrap ((l.length : Int) - 1) = (l.length : Int) - 1 - ((0 : Nat) : Int) := by rw [wrap_i64 (by omega) (by omega)]; omega
  simp only [bodyAt, bodyOf, loop_seq, loop_cond, loop_block, loop_loop, loop_region, loop_skip, loop_ret, loop_exit, orE_some, orE_none, Code.first, Option.getD_some, Nat.reduceEqDiff, ↓reduceIte, Tryz.f37] at h
  simp only [Int.cast_ofNat_Int] at h hw
  simp only [u37, Tryz.f37, hw, h, sm, tys, Nat.reduceAdd, Nat.reduceSub, Nat.reduceEqDiff, Nat.reduceLeDiff, Nat.reduceLT, Nat.reduceMul, Nat.reduceBEq, ↓reduceIte, reduceCtorEq, Int.reduceLT, Int.reduceLE, Int.reduceGT, Int.reduceGE, Int.reduceBEq, Int.reduceBNe, Int.reduceEq, Int.reduceNe, Int.reduceAdd, Int.reduceSub, Int.reduceMul, Int.reduceNeg, Int.reduceToNat]
set_option maxHeartbeats 4000000 in
theorem undo_eq (s : State) (hs : s.small) (l : List Pick) (hl : Small l) : v15 [.d s.d, .d (.sl (l.map Pick.d))] [] = match eachL doUndo l.reverse s.claims s.vols with
    | .inl (cs, vs) => some (.tup [.agg [.sl 0 0 ((s.put cs vs)).pods.length, .sl 1 0 ((s.put cs vs)).nodes.length, .sl 2 0 ((s.put cs vs)).vols.length, .sl 3 0 ((s.put cs vs)).claims.length, .sl 4 0 ((s.put cs vs)).classes.length, .sl 5 0 ((s.put cs vs)).budgets.length], .d (.int .i64 (0))], [.row 33 16 ((((s.put cs vs)).pods).map Pod.d), .row 36 9 ((((s.put cs vs)).nodes).map Node.d), .row 48 5 ((((s.put cs vs)).vols).map Vol.d), .row 61 4 ((((s.put cs vs)).claims).map Claim.d), .row 71 2 ((((s.put cs vs)).classes).map Class.d), .row 78 3 ((((s.put cs vs)).budgets).map Budget.d)])
    | .inr e => some (.tup [.agg [.nil, .nil, .nil, .nil, .nil, .nil], .d (.int .i64 (e))], []) := by
  have hr := reverse_eq l hl
  have ha := all_Pickd l
  have hll : l.length ≤ 2147483648 := by unfold Small at hl; omega
  have ho := own_data s hs
  simp only [State.d, State.cs] at ho
  have hl2 : Small l.reverse := by unfold Small at *; simpa using hl
  have h := un_data_loop (bd := bodyAt Tryz.f29 3) rfl s l.reverse hl2 hs l.reverse.length 0 s.claims s.vols (by omega) rfl rfl
  rw [List.drop_zero] at h
  have hlen := eachL_len doUndo l.reverse s.claims s.vols
  have ht := List.take_length (l := l.reverse.map Pick.d)
  rw [List.length_map] at ht
  have hrl : l.reverse.length = l.length := List.length_reverse
  generalize l.reverse = r at *
  rw [hrl] at ht
  cases e : eachL doUndo r s.claims s.vols with
  | inl q =>
    obtain ⟨cs, vs⟩ := q
    obtain ⟨q1, q2⟩ := hlen cs vs e
    rw [e] at h
    simp only at h ⊢
    simp only [bodyAt, bodyOf, loop_seq, loop_cond, loop_block, loop_loop, loop_region, loop_skip, loop_ret, loop_exit, orE_some, orE_none, Code.first, Option.getD_some, Nat.reduceEqDiff, ↓reduceIte, Tryz.f29] at h
    simp only [Int.cast_ofNat_Int] at h
    simp only [u15, Tryz.f15, u29, Tryz.f29, u36, Tryz.f36, State.d, State.cs, ho, h, hr, ha, hll, ht, State.put, q1, q2, sm, tys, Nat.reduceAdd, Nat.reduceSub, Nat.reduceEqDiff, Nat.reduceLeDiff, Nat.reduceLT, Nat.reduceMul, Nat.reduceBEq, ↓reduceIte, reduceCtorEq, Int.reduceLT, Int.reduceLE, Int.reduceGT, Int.reduceGE, Int.reduceBEq, Int.reduceBNe, Int.reduceEq, Int.reduceNe, Int.reduceAdd, Int.reduceSub, Int.reduceMul, Int.reduceNeg, Int.reduceToNat]
  | inr err =>
    rw [e] at h
    simp only at h ⊢
    simp only [bodyAt, bodyOf, loop_seq, loop_cond, loop_block, loop_loop, loop_region, loop_skip, loop_ret, loop_exit, orE_some, orE_none, Code.first, Option.getD_some, Nat.reduceEqDiff, ↓reduceIte, Tryz.f29] at h
    simp only [Int.cast_ofNat_Int] at h
    obtain ⟨rest, h⟩ := h
    simp only [u15, Tryz.f15, u29, Tryz.f29, u36, Tryz.f36, State.d, State.cs, ho, h, hr, ha, hll, ht, sm, tys, Nat.reduceAdd, Nat.reduceSub, Nat.reduceEqDiff, Nat.reduceLeDiff, Nat.reduceLT, Nat.reduceMul, Nat.reduceBEq, ↓reduceIte, reduceCtorEq, Int.reduceLT, Int.reduceLE, Int.reduceGT, Int.reduceGE, Int.reduceBEq, Int.reduceBNe, Int.reduceEq, Int.reduceNe, Int.reduceAdd, Int.reduceSub, Int.reduceMul, Int.reduceNeg, Int.reduceToNat]
end Go.Wm.Try1
namespace Go.Wm.Try1
open Go Go.Wm Go.Proofs
set_option maxHeartbeats 1000000 in
theorem has_eq_loop {bd : Code} (hb : bd = bodyAt Tryz.f19 2) (l : List Str) (hl : Small l) (x : Str) : ∀ (k i : Nat), i + k = l.length →
    evLoop E19 0 bd [(0, .d (.sl (l.map strD))), (1, .d (D.str x)), (5, .d (.int .i64 ((i : Int))))] [] = if x ∈ l.drop i then some ([(4, .d (.bool true))], [], .ret) else some ([(0, .d (.sl (l.map strD))), (1, .d (D.str x)), (5, .d (.int .i64 (l.length))), (9, .d (.bool false))], [], .exit 0) := by
  simp only [bodyAt, bodyOf, loop_seq, loop_cond, loop_block, loop_loop, loop_region, loop_skip, loop_ret, loop_exit, orE_some, orE_none, Code.first, Option.getD_some, Nat.reduceEqDiff, ↓reduceIte, Tryz.f19] at hb
  subst hb
  unfold Small at hl
  intro k
  induction k with
  | zero =>
    intro i hk
    have hi : (i : Int) = (l.length : Int) := by omega
    have hd : l.drop i = [] := by rw [List.drop_eq_nil_iff]; omega
    rw [hd, if_neg (by simp), c_round]
    simp only [u19, Tryz.f19, hi, Int.lt_irrefl, sm, tys, Nat.reduceAdd, Nat.reduceSub, Nat.reduceEqDiff, Nat.reduceLeDiff, Nat.reduceLT, Nat.reduceMul, Nat.reduceBEq, ↓reduceIte, reduceCtorEq, Int.reduceLT, Int.reduceLE, Int.reduceGT, Int.reduceGE, Int.reduceBEq, Int.reduceBNe, Int.reduceEq, Int.reduceNe, Int.reduceAdd, Int.reduceSub, Int.reduceMul, Int.reduceNeg, Int.reduceToNat]
  | succ k ih =>
    intro i hk
    have hi : (i : Int) < (l.length : Int) := by omega
    have h0 : 0 ≤ (i : Int) := by omega
    have hlt : i < l.length := by omega
    have hci : l[i]? = some l[i] := by simp [hlt]
    have hd : l.drop i = l[i] :: l.drop (i + 1) := List.drop_eq_getElem_cons hlt
    generalize l[i] = c at hci hd
    have hw : IntKind.i64.wrap ((i : Int) + 1) = ((i + 1 : Nat) : Int) := by rw [wrap_i64 (by omega) (by omega)]; omega
    by_cases e : c = x
    · rw [hd, if_pos (by rw [e]; simp), c_round]
      simp only [u19, Tryz.f19, hi, h0, hci, strD, e, sm, tys, Nat.reduceAdd, Nat.reduceSub, Nat.reduceEqDiff, Nat.reduceLeDiff, Nat.reduceLT, Nat.reduceMul, Nat.reduceBEq, ↓reduceIte, reduceCtorEq, Int.reduceLT, Int.reduceLE, Int.reduceGT, Int.reduceGE, Int.reduceBEq, Int.reduceBNe, Int.reduceEq, Int.reduceNe, Int.reduceAdd, Int.reduceSub, Int.reduceMul, Int.reduceNeg, Int.reduceToNat]
    · have e' : ¬ x = c := fun h => e h.symm
      have : (x ∈ c :: l.drop (i + 1)) ↔ x ∈ l.drop (i + 1) := by simp [e']
      rw [hd]
      simp only [this]
      rw [← ih (i + 1) (by omega), c_round]
      simp only [u19, Tryz.f19, hi, h0, hci, hw, strD, e, sm, tys, Nat.reduceAdd, Nat.reduceSub, Nat.reduceEqDiff, Nat.reduceLeDiff, Nat.reduceLT, Nat.reduceMul, Nat.reduceBEq, ↓reduceIte, reduceCtorEq, Int.reduceLT, Int.reduceLE, Int.reduceGT, Int.reduceGE, Int.reduceBEq, Int.reduceBNe, Int.reduceEq, Int.reduceNe, Int.reduceAdd, Int.reduceSub, Int.reduceMul, Int.reduceNeg, Int.reduceToNat]
theorem has_eq (l : List Str) (hl : Small l) (x : Str) : v19 [.d (.sl (l.map strD)), .d (D.str x)] [] = some (.d (.bool (decide (x ∈ l))), []) := by
  have h := has_eq_loop (bd := bodyAt Tryz.f19 2) rfl l hl x l.length 0 (by omega)
  rw [List.drop_zero] at h
  simp only [bodyAt, bodyOf, loop_seq, loop_cond, loop_block, loop_loop, loop_region, loop_skip, loop_ret, loop_exit, orE_some, orE_none, Code.first, Option.getD_some, Nat.reduceEqDiff, ↓reduceIte, Tryz.f19] at h
  simp only [Int.cast_ofNat_Int] at h
  by_cases e : x ∈ l
  · rw [if_pos e] at h
    simp only [u19, Tryz.f19, h, e, sm, tys, Nat.reduceAdd, Nat.reduceSub, Nat.reduceEqDiff, Nat.reduceLeDiff, Nat.reduceLT, Nat.reduceMul, Nat.reduceBEq, ↓reduceIte, reduceCtorEq, Int.reduceLT, Int.reduceLE, Int.reduceGT, Int.reduceGE, Int.reduceBEq, Int.reduceBNe, Int.reduceEq, Int.reduceNe, Int.reduceAdd, Int.reduceSub, Int.reduceMul, Int.reduceNeg, Int.reduceToNat]
  · rw [if_neg e] at h
    simp only [u19, Tryz.f19, h, e, sm, tys, Nat.reduceAdd, Nat.reduceSub, Nat.reduceEqDiff, Nat.reduceLeDiff, Nat.reduceLT, Nat.reduceMul, Nat.reduceBEq, ↓reduceIte, reduceCtorEq, Int.reduceLT, Int.reduceLE, Int.reduceGT, Int.reduceGE, Int.reduceBEq, Int.reduceBNe, Int.reduceEq, Int.reduceNe, Int.reduceAdd, Int.reduceSub, Int.reduceMul, Int.reduceNeg, Int.reduceToNat]
/-- each once, none empty -/
def uniq : List Str → List Str → Bool
  | _, [] => true
  | out, x :: r => if x = [] then false else if x ∈ out then false else uniq (out ++ [x]) r
set_option maxHeartbeats 4000000 in
theorem once_loop3 {bd : Code} (hb : bd = bodyAt Tryz.f8 3) (s : State) (hl : Small s.claims) : ∀ (k i : Nat) (out : List Str), i + k = s.claims.length → out.length ≤ i →
    if uniq out ((s.claims.drop i).map Claim.name) then
      ∃ out2 : List Str, evLoop E8 0 bd [(1, .ptr 0 0), (3, .own 1 (out.map strD)), (4, .fsl []), (5, .d (.int .i64 ((i : Int))))] [.box [.d (.sl (s.pods.map Pod.d)), .d (.sl (s.nodes.map Node.d)), .d (.sl (s.vols.map Vol.d)), .d (.sl (s.claims.map Claim.d)), .d (.sl (s.classes.map Class.d)), .d (.sl (s.budgets.map Budget.d))], .tok 9 out.length 1] = some ([(1, .ptr 0 0), (3, .own 1 (out2.map strD)), (4, .fsl []), (5, .d (.int .i64 (s.claims.length))), (13, .d (.bool false))], [.box [.d (.sl (s.pods.map Pod.d)), .d (.sl (s.nodes.map Node.d)), .d (.sl (s.vols.map Vol.d)), .d (.sl (s.claims.map Claim.d)), .d (.sl (s.classes.map Class.d)), .d (.sl (s.budgets.map Budget.d))], .tok 9 out2.length 1], .exit 0)
    else ∃ S, evLoop E8 0 bd [(1, .ptr 0 0), (3, .own 1 (out.map strD)), (4, .fsl []), (5, .d (.int .i64 ((i : Int))))] [.box [.d (.sl (s.pods.map Pod.d)), .d (.sl (s.nodes.map Node.d)), .d (.sl (s.vols.map Vol.d)), .d (.sl (s.claims.map Claim.d)), .d (.sl (s.classes.map Class.d)), .d (.sl (s.budgets.map Budget.d))], .tok 9 out.length 1] = some ([(2, .d (.bool false))], S, .ret) := by
  simp only [bodyAt, bodyOf, loop_seq, loop_cond, loop_block, loop_loop, loop_region, loop_skip, loop_ret, loop_exit, orE_some, orE_none, Code.first, Option.getD_some, Nat.reduceEqDiff, ↓reduceIte, Tryz.f8] at hb
  subst hb
  unfold Small at hl
  intro k
  induction k with
  | zero =>
    intro i out hk ho
    have hi : (i : Int) = (s.claims.length : Int) := by omega
    have hd : s.claims.drop i = [] := by rw [List.drop_eq_nil_iff]; omega
    have hu0 : uniq out [] = true := by simp [uniq]
    rw [hd, List.map_nil, hu0, if_pos rfl]
    refine ⟨out, ?_⟩
    rw [c_round]
    simp only [u8, Tryz.f8, hi, Int.lt_irrefl, sm, tys, Nat.reduceAdd, Nat.reduceSub, Nat.reduceEqDiff, Nat.reduceLeDiff, Nat.reduceLT, Nat.reduceMul, Nat.reduceBEq, ↓reduceIte, reduceCtorEq, Int.reduceLT, Int.reduceLE, Int.reduceGT, Int.reduceGE, Int.reduceBEq, Int.reduceBNe, Int.reduceEq, Int.reduceNe, Int.reduceAdd, Int.reduceSub, Int.reduceMul, Int.reduceNeg, Int.reduceToNat]
  | succ k ih =>
    intro i out hk ho
    have hi : (i : Int) < (s.claims.length : Int) := by omega
    have h0 : 0 ≤ (i : Int) := by omega
    have hlt : i < s.claims.length := by omega
    have hci : s.claims[i]? = some s.claims[i] := by simp [hlt]
    have hd : s.claims.drop i = s.claims[i] :: s.claims.drop (i + 1) := List.drop_eq_getElem_cons hlt
    generalize s.claims[i] = c at hci hd
    have hw : IntKind.i64.wrap ((i : Int) + 1) = ((i + 1 : Nat) : Int) := by rw [wrap_i64 (by omega) (by omega)]; omega
    have hh := has_eq out (by unfold Small; omega) c.name
    have hol : out.length + 1 ≤ 2147483648 := by omega
    rw [hd, List.map_cons]
    by_cases e1 : c.name = []
    · have hu : uniq out (c.name :: (s.claims.drop (i + 1)).map Claim.name) = false := by unfold uniq; rw [if_pos e1]
      rw [hu, if_neg (by simp), c_round]
      simp only [u8, Tryz.f8, hi, h0, hci, e1, Claim.d, sm, tys, Nat.reduceAdd, Nat.reduceSub, Nat.reduceEqDiff, Nat.reduceLeDiff, Nat.reduceLT, Nat.reduceMul, Nat.reduceBEq, ↓reduceIte, reduceCtorEq, Int.reduceLT, Int.reduceLE, Int.reduceGT, Int.reduceGE, Int.reduceBEq, Int.reduceBNe, Int.reduceEq, Int.reduceNe, Int.reduceAdd, Int.reduceSub, Int.reduceMul, Int.reduceNeg, Int.reduceToNat]
      exact ⟨_, rfl⟩
    · by_cases e2 : c.name ∈ out
      · have hu : uniq out (c.name :: (s.claims.drop (i + 1)).map Claim.name) = false := by unfold uniq; rw [if_neg e1, if_pos e2]
        simp only [e2, decide_true] at hh
        rw [hu, if_neg (by simp), c_round]
        simp only [u8, Tryz.f8, hi, h0, hci, e1, hh, Claim.d, sm, tys, Nat.reduceAdd, Nat.reduceSub, Nat.reduceEqDiff, Nat.reduceLeDiff, Nat.reduceLT, Nat.reduceMul, Nat.reduceBEq, ↓reduceIte, reduceCtorEq, Int.reduceLT, Int.reduceLE, Int.reduceGT, Int.reduceGE, Int.reduceBEq, Int.reduceBNe, Int.reduceEq, Int.reduceNe, Int.reduceAdd, Int.reduceSub, Int.reduceMul, Int.reduceNeg, Int.reduceToNat]
        exact ⟨_, rfl⟩
      · have hu : uniq out (c.name :: (s.claims.drop (i + 1)).map Claim.name) = uniq (out ++ [c.name]) ((s.claims.drop (i + 1)).map Claim.name) := by rw [uniq, if_neg e1, if_neg e2]
        simp only [e2, decide_false] at hh
        have hih := ih (i + 1) (out ++ [c.name]) (by omega) (by simp; omega)
        rw [List.map_append (l₂ := [_]), List.map_cons, List.map_nil, List.length_append (bs := [_]), List.length_cons, List.length_nil, Nat.zero_add, strD] at hih
        rw [hu, c_round]
        cases hb : uniq (out ++ [c.name]) ((s.claims.drop (i + 1)).map Claim.name) with
        | true =>
          rw [hb, if_pos rfl] at hih
          rw [if_pos rfl]
          obtain ⟨o2, hih⟩ := hih
          refine ⟨o2, ?_⟩
          rw [← hih]
          simp only [u8, Tryz.f8, hi, h0, hci, hw, e1, hh, hol, Claim.d, sm, tys, Nat.reduceAdd, Nat.reduceSub, Nat.reduceEqDiff, Nat.reduceLeDiff, Nat.reduceLT, Nat.reduceMul, Nat.reduceBEq, ↓reduceIte, reduceCtorEq, Int.reduceLT, Int.reduceLE, Int.reduceGT, Int.reduceGE, Int.reduceBEq, Int.reduceBNe, Int.reduceEq, Int.reduceNe, Int.reduceAdd, Int.reduceSub, Int.reduceMul, Int.reduceNeg, Int.reduceToNat]
        | false =>
          rw [hb, if_neg (by simp)] at hih
          rw [if_neg (by simp)]
          obtain ⟨S, hih⟩ := hih
          refine ⟨S, ?_⟩
          rw [← hih]
          simp only [u8, Tryz.f8, hi, h0, hci, hw, e1, hh, hol, Claim.d, sm, tys, Nat.reduceAdd, Nat.reduceSub, Nat.reduceEqDiff, Nat.reduceLeDiff, Nat.reduceLT, Nat.reduceMul, Nat.reduceBEq, ↓reduceIte, reduceCtorEq, Int.reduceLT, Int.reduceLE, Int.reduceGT, Int.reduceGE, Int.reduceBEq, Int.reduceBNe, Int.reduceEq, Int.reduceNe, Int.reduceAdd, Int.reduceSub, Int.reduceMul, Int.reduceNeg, Int.reduceToNat]
set_option maxHeartbeats 4000000 in
theorem once_loop9 {bd : Code} (hb : bd = bodyAt Tryz.f8 9) (s : State) (hl : Small s.vols) : ∀ (k i : Nat) (out : List Str), i + k = s.vols.length → out.length ≤ i →
    if uniq out ((s.vols.drop i).map Vol.name) then
      ∃ out2 : List Str, evLoop E8 0 bd [(1, .ptr 0 0), (4, .own 1 (out.map strD)), (6, .d (.int .i64 ((i : Int))))] [.box [.d (.sl (s.pods.map Pod.d)), .d (.sl (s.nodes.map Node.d)), .d (.sl (s.vols.map Vol.d)), .d (.sl (s.claims.map Claim.d)), .d (.sl (s.classes.map Class.d)), .d (.sl (s.budgets.map Budget.d))], .tok 9 out.length 1] = some ([(1, .ptr 0 0), (4, .own 1 (out2.map strD)), (6, .d (.int .i64 (s.vols.length))), (46, .d (.bool false))], [.box [.d (.sl (s.pods.map Pod.d)), .d (.sl (s.nodes.map Node.d)), .d (.sl (s.vols.map Vol.d)), .d (.sl (s.claims.map Claim.d)), .d (.sl (s.classes.map Class.d)), .d (.sl (s.budgets.map Budget.d))], .tok 9 out2.length 1], .exit 2)
    else ∃ S, evLoop E8 0 bd [(1, .ptr 0 0), (4, .own 1 (out.map strD)), (6, .d (.int .i64 ((i : Int))))] [.box [.d (.sl (s.pods.map Pod.d)), .d (.sl (s.nodes.map Node.d)), .d (.sl (s.vols.map Vol.d)), .d (.sl (s.claims.map Claim.d)), .d (.sl (s.classes.map Class.d)), .d (.sl (s.budgets.map Budget.d))], .tok 9 out.length 1] = some ([(2, .d (.bool false))], S, .ret) := by
  simp only [bodyAt, bodyOf, loop_seq, loop_cond, loop_block, loop_loop, loop_region, loop_skip, loop_ret, loop_exit, orE_some, orE_none, Code.first, Option.getD_some, Nat.reduceEqDiff, ↓reduceIte, Tryz.f8] at hb
  subst hb
  unfold Small at hl
  intro k
  induction k with
  | zero =>
    intro i out hk ho
    have hi : (i : Int) = (s.vols.length : Int) := by omega
    have hd : s.vols.drop i = [] := by rw [List.drop_eq_nil_iff]; omega
    have hu0 : uniq out [] = true := by simp [uniq]
    rw [hd, List.map_nil, hu0, if_pos rfl]
    refine ⟨out, ?_⟩
    rw [c_round]
    simp only [u8, Tryz.f8, hi, Int.lt_irrefl, sm, tys, Nat.reduceAdd, Nat.reduceSub, Nat.reduceEqDiff, Nat.reduceLeDiff, Nat.reduceLT, Nat.reduceMul, Nat.reduceBEq, ↓reduceIte, reduceCtorEq, Int.reduceLT, Int.reduceLE, Int.reduceGT, Int.reduceGE, Int.reduceBEq, Int.reduceBNe, Int.reduceEq, Int.reduceNe, Int.reduceAdd, Int.reduceSub, Int.reduceMul, Int.reduceNeg, Int.reduceToNat]
  | succ k ih =>
    intro i out hk ho
    have hi : (i : Int) < (s.vols.length : Int) := by omega
    have h0 : 0 ≤ (i : Int) := by omega
    have hlt : i < s.vols.length := by omega
    have hci : s.vols[i]? = some s.vols[i] := by simp [hlt]
    have hd : s.vols.drop i = s.vols[i] :: s.vols.drop (i + 1) := List.drop_eq_getElem_cons hlt
    generalize s.vols[i] = c at hci hd
    have hw : IntKind.i64.wrap ((i : Int) + 1) = ((i + 1 : Nat) : Int) := by rw [wrap_i64 (by omega) (by omega)]; omega
    have hh := has_eq out (by unfold Small; omega) c.name
    have hol : out.length + 1 ≤ 2147483648 := by omega
    rw [hd, List.map_cons]
    by_cases e1 : c.name = []
    · have hu : uniq out (c.name :: (s.vols.drop (i + 1)).map Vol.name) = false := by unfold uniq; rw [if_pos e1]
      rw [hu, if_neg (by simp), c_round]
      simp only [u8, Tryz.f8, hi, h0, hci, e1, Vol.d, sm, tys, Nat.reduceAdd, Nat.reduceSub, Nat.reduceEqDiff, Nat.reduceLeDiff, Nat.reduceLT, Nat.reduceMul, Nat.reduceBEq, ↓reduceIte, reduceCtorEq, Int.reduceLT, Int.reduceLE, Int.reduceGT, Int.reduceGE, Int.reduceBEq, Int.reduceBNe, Int.reduceEq, Int.reduceNe, Int.reduceAdd, Int.reduceSub, Int.reduceMul, Int.reduceNeg, Int.reduceToNat]
      exact ⟨_, rfl⟩
    · by_cases e2 : c.name ∈ out
      · have hu : uniq out (c.name :: (s.vols.drop (i + 1)).map Vol.name) = false := by unfold uniq; rw [if_neg e1, if_pos e2]
        simp only [e2, decide_true] at hh
        rw [hu, if_neg (by simp), c_round]
        simp only [u8, Tryz.f8, hi, h0, hci, e1, hh, Vol.d, sm, tys, Nat.reduceAdd, Nat.reduceSub, Nat.reduceEqDiff, Nat.reduceLeDiff, Nat.reduceLT, Nat.reduceMul, Nat.reduceBEq, ↓reduceIte, reduceCtorEq, Int.reduceLT, Int.reduceLE, Int.reduceGT, Int.reduceGE, Int.reduceBEq, Int.reduceBNe, Int.reduceEq, Int.reduceNe, Int.reduceAdd, Int.reduceSub, Int.reduceMul, Int.reduceNeg, Int.reduceToNat]
        exact ⟨_, rfl⟩
      · have hu : uniq out (c.name :: (s.vols.drop (i + 1)).map Vol.name) = uniq (out ++ [c.name]) ((s.vols.drop (i + 1)).map Vol.name) := by rw [uniq, if_neg e1, if_neg e2]
        simp only [e2, decide_false] at hh
        have hih := ih (i + 1) (out ++ [c.name]) (by omega) (by simp; omega)
        rw [List.map_append (l₂ := [_]), List.map_cons, List.map_nil, List.length_append (bs := [_]), List.length_cons, List.length_nil, Nat.zero_add, strD] at hih
        rw [hu, c_round]
        cases hb : uniq (out ++ [c.name]) ((s.vols.drop (i + 1)).map Vol.name) with
        | true =>
          rw [hb, if_pos rfl] at hih
          rw [if_pos rfl]
          obtain ⟨o2, hih⟩ := hih
          refine ⟨o2, ?_⟩
          rw [← hih]
          simp only [u8, Tryz.f8, hi, h0, hci, hw, e1, hh, hol, Vol.d, sm, tys, Nat.reduceAdd, Nat.reduceSub, Nat.reduceEqDiff, Nat.reduceLeDiff, Nat.reduceLT, Nat.reduceMul, Nat.reduceBEq, ↓reduceIte, reduceCtorEq, Int.reduceLT, Int.reduceLE, Int.reduceGT, Int.reduceGE, Int.reduceBEq, Int.reduceBNe, Int.reduceEq, Int.reduceNe, Int.reduceAdd, Int.reduceSub, Int.reduceMul, Int.reduceNeg, Int.reduceToNat]
        | false =>
          rw [hb, if_neg (by simp)] at hih
          rw [if_neg (by simp)]
          obtain ⟨S, hih⟩ := hih
          refine ⟨S, ?_⟩
          rw [← hih]
          simp only [u8, Tryz.f8, hi, h0, hci, hw, e1, hh, hol, Vol.d, sm, tys, Nat.reduceAdd, Nat.reduceSub, Nat.reduceEqDiff, Nat.reduceLeDiff, Nat.reduceLT, Nat.reduceMul, Nat.reduceBEq, ↓reduceIte, reduceCtorEq, Int.reduceLT, Int.reduceLE, Int.reduceGT, Int.reduceGE, Int.reduceBEq, Int.reduceBNe, Int.reduceEq, Int.reduceNe, Int.reduceAdd, Int.reduceSub, Int.reduceMul, Int.reduceNeg, Int.reduceToNat]
def State.once (s : State) : Bool := uniq [] (s.claims.map Claim.name) && uniq [] (s.vols.map Vol.name)
set_option maxHeartbeats 4000000 in
theorem once_eq (s : State) (h1 : Small s.claims) (h2 : Small s.vols) : v8 [.d s.d] [] = some (.d (.bool s.once), []) := by
  have l1 := once_loop3 (bd := bodyAt Tryz.f8 3) rfl s h1 s.claims.length 0 [] (by omega) (by simp)
  have l2 := once_loop9 (bd := bodyAt Tryz.f8 9) rfl s h2 s.vols.length 0 [] (by omega) (by simp)
  rw [List.drop_zero] at l1 l2
  simp only [bodyAt, bodyOf, loop_seq, loop_cond, loop_block, loop_loop, loop_region, loop_skip, loop_ret, loop_exit, orE_some, orE_none, Code.first, Option.getD_some, Nat.reduceEqDiff, ↓reduceIte, Tryz.f8] at l1 l2
  simp only [Int.cast_ofNat_Int, List.map_nil, List.length_nil] at l1 l2
  unfold State.once
  cases e1 : uniq [] (s.claims.map Claim.name) with
  | false =>
    rw [e1, if_neg (by simp)] at l1
    obtain ⟨S, l1⟩ := l1
    simp only [u8, Tryz.f8, State.d, State.cs, l1, sm, tys, Nat.reduceAdd, Nat.reduceSub, Nat.reduceEqDiff, Nat.reduceLeDiff, Nat.reduceLT, Nat.reduceMul, Nat.reduceBEq, ↓reduceIte, reduceCtorEq, Int.reduceLT, Int.reduceLE, Int.reduceGT, Int.reduceGE, Int.reduceBEq, Int.reduceBNe, Int.reduceEq, Int.reduceNe, Int.reduceAdd, Int.reduceSub, Int.reduceMul, Int.reduceNeg, Int.reduceToNat]
  | true =>
    rw [e1, if_pos rfl] at l1
    obtain ⟨o, l1⟩ := l1
    cases e2 : uniq [] (s.vols.map Vol.name) with
    | false =>
      rw [e2, if_neg (by simp)] at l2
      obtain ⟨S, l2⟩ := l2
      simp only [u8, Tryz.f8, State.d, State.cs, l1, l2, sm, tys, Nat.reduceAdd, Nat.reduceSub, Nat.reduceEqDiff, Nat.reduceLeDiff, Nat.reduceLT, Nat.reduceMul, Nat.reduceBEq, ↓reduceIte, reduceCtorEq, Int.reduceLT, Int.reduceLE, Int.reduceGT, Int.reduceGE, Int.reduceBEq, Int.reduceBNe, Int.reduceEq, Int.reduceNe, Int.reduceAdd, Int.reduceSub, Int.reduceMul, Int.reduceNeg, Int.reduceToNat]
    | true =>
      rw [e2, if_pos rfl] at l2
      obtain ⟨o2, l2⟩ := l2
      simp only [u8, Tryz.f8, State.d, State.cs, l1, l2, sm, tys, Nat.reduceAdd, Nat.reduceSub, Nat.reduceEqDiff, Nat.reduceLeDiff, Nat.reduceLT, Nat.reduceMul, Nat.reduceBEq, ↓reduceIte, reduceCtorEq, Int.reduceLT, Int.reduceLE, Int.reduceGT, Int.reduceGE, Int.reduceBEq, Int.reduceBNe, Int.reduceEq, Int.reduceNe, Int.reduceAdd, Int.reduceSub, Int.reduceMul, Int.reduceNeg, Int.reduceToNat]
end Go.Wm.Try1
