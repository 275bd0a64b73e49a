/-
  A part of the proof: an abstract run of the program, shown to be what the model does, and what it comes to.
-/
import Derived.Test.YtfopbbeieegfcaaW5
set_option linter.unusedSectionVars false
set_option linter.unnecessarySimpa false
set_option maxRecDepth 100000
set_option linter.unusedVariables false
set_option linter.unusedSimpArgs false
set_option linter.defProp false
namespace Go.Wm.Try1
open Go Go.Wm Go.Proofs
/-- an act -/
structure Act where
  do_ : Int
  kind : Int
  n : Int
def Act.d (a : Act) : D := .agg [.int .i64 a.do_, .int .i64 a.kind, .int .i64 a.n]
theorem next_any (w : List (Int × Bool)) (h7 : w.length = 7) (k : Nat) (h1 : 1 ≤ k) (h6 : k ≤ 6) (n : Int) (log : Log) (hl : log.length ≤ 1073741824) :
    ∃ (x : D) (e : Int) (w' : List (Int × Bool)), v18 [.ptr 0 0, .d (.int .i64 (k)), .d (.int .i64 (n)), .d (.sl (Log.d log))] [.box ((wds (w)).map V.d)] = some (.tup [.d x, .d (.int .i64 (e))], [.box ((wds (w')).map V.d)]) ∧ w'.length = 7 ∧ ∀ j, j ≠ k → w'[j]? = w[j]? := by
  by_cases hn : 0 ≤ n
  · cases hw : w[k]? with
    | none => rw [List.getElem?_eq_none_iff] at hw; omega
    | some p =>
      obtain ⟨a, o⟩ := p
      cases o with
      | true => exact ⟨_, _, _, next_gone w h7 k h1 h6 a hw n hn _, h7, fun _ _ => rfl⟩
      | false => exact ⟨_, _, _, next_eq w h7 k h1 h6 a hw n hn log hl, by simp [h7], fun j hj => by rw [List.getElem?_set]; simp [Ne.symm hj]⟩
  · exact ⟨_, _, _, next_neg w h7 k h1 h6 n (by omega) _, h7, fun _ _ => rfl⟩
theorem cut_any (w : List (Int × Bool)) (h7 : w.length = 7) (k : Nat) (h1 : 1 ≤ k) (h6 : k ≤ 6) :
    ∃ (e : Int) (w' : List (Int × Bool)), v28 [.ptr 0 0, .d (.int .i64 (k))] [.box ((wds (w)).map V.d)] = some (.d (.int .i64 (e)), [.box ((wds (w')).map V.d)]) ∧ w'.length = 7 ∧ ∀ j, j ≠ k → w'[j]? = w[j]? := by
  cases hw : w[k]? with
  | none => rw [List.getElem?_eq_none_iff] at hw; omega
  | some p =>
    obtain ⟨a, o⟩ := p
    cases o with
    | true => exact ⟨_, _, cut_gone w h7 k h1 h6 a hw, h7, fun _ _ => rfl⟩
    | false => exact ⟨_, _, cut_eq w h7 k h1 h6 a hw, by simp [h7], fun j hj => by rw [List.getElem?_set]; simp [Ne.symm hj]⟩
theorem list_any (w : List (Int × Bool)) (h7 : w.length = 7) (k : Nat) (h1 : 1 ≤ k) (h6 : k ≤ 6) (n : Int) :
    ∃ (e : Int) (w' : List (Int × Bool)), v29 [.ptr 0 0, .d (.int .i64 (k)), .d (.int .i64 (n))] [.box ((wds (w)).map V.d)] = some (.d (.int .i64 (e)), [.box ((wds (w')).map V.d)]) ∧ w'.length = 7 ∧ ∀ j, j ≠ k → w'[j]? = w[j]? := by
  by_cases hn : 0 ≤ n
  · exact ⟨_, _, list_eq w h7 k h1 h6 n hn, by simp [h7], fun j hj => by rw [List.getElem?_set]; simp [Ne.symm hj]⟩
  · exact ⟨_, _, list_neg w h7 k h1 h6 n (by omega), h7, fun _ _ => rfl⟩
set_option maxHeartbeats 4000000 in
theorem apart_loop {bd : Code} (hb : bd = bodyAt Try.f8 11) (log : Log) (hl : log.length ≤ 1073741824) (a b : Nat) (ha1 : 1 ≤ a) (ha6 : a ≤ 6) (hb1 : 1 ≤ b) (hb6 : b ≤ 6) (hab : a ≠ b) (acts : List Act) (hns : acts.length ≤ 1073741824) :
    ∀ (j i : Nat) (w v : List (Int × Bool)) (x : Int), i + j = acts.length → w.length = 7 → v.length = 7 → w[a]? = some (x, false) → v[a]? = some (x, false) →
    ∃ (w' v' : List (Int × Bool)),
    evLoop E8 0 bd [(1, .d (.int .i64 (a))), (2, .d (.int .i64 (b))), (3, .d (.sl (acts.map Act.d))), (9, .d (.sl (Log.d log))), (10, .ptr 0 0), (11, .ptr 1 0), (12, .d (.int .i64 ((i : Int))))] [.box ((wds (w)).map V.d), .box ((wds (v)).map V.d)] = some ([(1, .d (.int .i64 (a))), (2, .d (.int .i64 (b))), (3, .d (.sl (acts.map Act.d))), (9, .d (.sl (Log.d log))), (10, .ptr 0 0), (11, .ptr 1 0), (12, .d (.int .i64 (acts.length))), (42, .d (.bool false))], [.box ((wds (w')).map V.d), .box ((wds (v')).map V.d)], .exit 0) := by
  simp only [bodyAt, bodyOf, loop_seq, loop_cond, loop_block, loop_loop, loop_region, loop_skip, loop_ret, loop_exit, orE_some, orE_none, Code.first, Option.getD_some, Nat.reduceEqDiff, ↓reduceIte, Try.f8] at hb
  subst hb
  intro j
  induction j with
  | zero =>
    intro i w v x hk h7 h7' hw hv
    have hi : (i : Int) = (acts.length : Int) := by omega
    refine ⟨w, v, ?_⟩
    rw [c_round]
    simp only [u8, Try.f8, hi, Int.lt_irrefl, ruB, ruP, ru0, ru1, ru2, ru3, ru4, ru5, ru6, ru7, ru8, ru9, ru10, tys, fnSpec, bodyOf, resultsOf, Option.getD_some, ev, evO, Tm.get, Tm.put, clean, keepOf, loopsOf, newsOf, modeOf, boxesOf, callOf, ofValue, argsT, guardOf, guardV, oneOf, head, promote, Tm.refs, Code.first, AObj.live, back, callW, needs, binV, intOp, intCmp, shiftOp, isShift, eqOp, eqT, eqFs, scalarOf, asD, asDs, nilFor, nilOf, unV, convV, convB, bytesOf, extractV, indexV, idxA, idxD, fldA, fldV, ldV, stV, nilV, fnV, isConst, lenOf, countOf, sliceOf, maxV, boolOf, intOf, Env.fields, Env.arr, Env.elem, TD.isAgg, pieceD, pieceV, mkAgg, allD, putCells, D.put, buildV, fillV, arrPlaces, buildSliceV, sliceV, bounds, sliceStr, optInt, appendV, newList, makeSliceV, zeroD, zeroV, clearV, V.scal, V.scal1, D.scal, D.scal1, lent, kBorA, Option.map_some, Option.map_none, Option.bind_some, Option.bind_none, Option.some.injEq, List.map_cons, List.map_nil, List.length_cons, List.length_nil, List.getElem?_cons_zero, List.getElem?_cons_succ, List.getElem?_nil, List.getElem?_toArray, List.drop_succ_cons, List.drop_zero, List.take_succ_cons, List.take_zero, List.append_nil, List.nil_append, List.cons_append, List.set_cons_zero, List.set_cons_succ, List.head?_cons, List.headD_cons, List.isEmpty_nil, List.isEmpty_cons, List.all_nil, List.all_cons, List.take_nil, List.drop_nil, List.toList_toArray, Nat.reduceAdd, Nat.reduceSub, Nat.reduceEqDiff, Nat.reduceLeDiff, Nat.reduceLT, Nat.reduceMul, Nat.reduceBEq, ↓reduceIte, reduceCtorEq, Bool.false_eq_true, Bool.not_true, Bool.not_false, Bool.and_true, Bool.true_and, Bool.and_false, Bool.false_and, Bool.and_self, Bool.true_or, Bool.or_true, decide_true, decide_false, decide_eq_true_eq, decide_eq_false_iff_not, Int.not_lt, Int.not_le, not_true_eq_false, not_false_eq_true, and_self, and_true, true_and, Int.reduceLT, Int.reduceLE, Int.reduceGT, Int.reduceGE, Int.reduceBEq, Int.reduceBNe, Int.reduceEq, Int.reduceNe, Int.reduceAdd, Int.reduceSub, Int.reduceMul, Int.reduceNeg, Int.reduceToNat, ge_iff_le, gt_iff_lt, Bool.not_eq_true', List.cons.injEq, and_false, false_and, decide_not, Bool.not_eq_eq_eq_not, Option.getD_none, Int.cast_ofNat_Int, bne_self_eq_false, beq_self_eq_true, Int.toNat_natCast, List.getElem?_map, List.length_map, kFin, kGc, reached, kIds, nodupB, posOf, List.range_zero, List.range_succ, List.filter_cons, List.filter_nil, List.contains_cons, List.contains_nil, Bool.or_false, Bool.false_or, Bool.or_self, Nat.not_lt_zero, footR, footC, argsC, funC, totalMax, needsMax, padS, List.replicate, List.replicate_zero, List.replicate_succ, checkD, Rec.idle, apartRec, disjB, keysOf, direct, List.range', Array.any_toList, List.any_toArray, List.any_cons, List.any_nil, Nat.add_zero, Nat.zero_add, clone_row, clone_data]
  | succ j ih =>
    intro i w v x hk h7 h7' hw hv
    have hi : (i : Int) < (acts.length : Int) := by omega
    have h0 : 0 ≤ (i : Int) := by omega
    have hlt : i < acts.length := by omega
    have hci : acts[i]? = some acts[i] := by simp [hlt]
    generalize acts[i] = c at hci
    have hcd : (acts.map Act.d)[i]? = some (.agg [.int .i64 c.do_, .int .i64 c.kind, .int .i64 c.n]) := by simp [hci, Act.d]
    rw [List.getElem?_map] at hcd
    have hwr : IntKind.i64.wrap ((i : Int) + 1) = ((i + 1 : Nat) : Int) := by rw [wrap_i64 (by omega) (by omega)]; omega
    have ham := am_eq c.n 5 (by decide) (by decide)
    have hnn := am_nn c.n 5 (by decide)
    have hnx := next_eq w h7 a ha1 ha6 x hw (am c.n 5) hnn log hl
    have hnv := next_eq v h7' a ha1 ha6 x hv (am c.n 5) hnn log hl
    have hrl := nextL_length a (am c.n 5) x log
    generalize nextL a (am c.n 5) x log = res at hnx hnv hrl
    have hsame := same_eq res res (by omega)
    simp only [decide_true] at hsame
    have hdo := am_eq c.do_ 3 (by decide) (by decide)
    have hd0 := am_nn c.do_ 3 (by decide)
    have hd1 := am_lt c.do_ 3 (by decide)
    have hw2 : (w.set a (lastV res x, false)).length = 7 := by simp [h7]
    have hv2 : (v.set a (lastV res x, false)).length = 7 := by simp [h7']
    have hwa : (w.set a (lastV res x, false))[a]? = some (lastV res x, false) := by rw [List.getElem?_set]; simp; omega
    have hva : (v.set a (lastV res x, false))[a]? = some (lastV res x, false) := by rw [List.getElem?_set]; simp; omega
    generalize w.set a (lastV res x, false) = w1 at *
    generalize v.set a (lastV res x, false) = v1 at *
    have h012 : am c.do_ 3 = 0 ∨ am c.do_ 3 = 1 ∨ am c.do_ 3 = 2 := by omega
    rcases h012 with hz | hz | hz
    · obtain ⟨r, e, w2, q1, q2, q3⟩ := next_any w1 hw2 b hb1 hb6 2 log hl
      obtain ⟨w', v', q⟩ := ih (i + 1) w2 v1 (lastV res x) (by omega) q2 hv2 (by rw [q3 a hab, hwa]) hva
      refine ⟨w', v', ?_⟩
      rw [← q, c_round]
      simp only [u8, Try.f8, hi, h0, hcd, hwr, ham, hnx, hnv, hsame, hdo, hz, q1, ruB, ruP, ru0, ru1, ru2, ru3, ru4, ru5, ru6, ru7, ru8, ru9, ru10, tys, fnSpec, bodyOf, resultsOf, Option.getD_some, ev, evO, Tm.get, Tm.put, clean, keepOf, loopsOf, newsOf, modeOf, boxesOf, callOf, ofValue, argsT, guardOf, guardV, oneOf, head, promote, Tm.refs, Code.first, AObj.live, back, callW, needs, binV, intOp, intCmp, shiftOp, isShift, eqOp, eqT, eqFs, scalarOf, asD, asDs, nilFor, nilOf, unV, convV, convB, bytesOf, extractV, indexV, idxA, idxD, fldA, fldV, ldV, stV, nilV, fnV, isConst, lenOf, countOf, sliceOf, maxV, boolOf, intOf, Env.fields, Env.arr, Env.elem, TD.isAgg, pieceD, pieceV, mkAgg, allD, putCells, D.put, buildV, fillV, arrPlaces, buildSliceV, sliceV, bounds, sliceStr, optInt, appendV, newList, makeSliceV, zeroD, zeroV, clearV, V.scal, V.scal1, D.scal, D.scal1, lent, kBorA, Option.map_some, Option.map_none, Option.bind_some, Option.bind_none, Option.some.injEq, List.map_cons, List.map_nil, List.length_cons, List.length_nil, List.getElem?_cons_zero, List.getElem?_cons_succ, List.getElem?_nil, List.getElem?_toArray, List.drop_succ_cons, List.drop_zero, List.take_succ_cons, List.take_zero, List.append_nil, List.nil_append, List.cons_append, List.set_cons_zero, List.set_cons_succ, List.head?_cons, List.headD_cons, List.isEmpty_nil, List.isEmpty_cons, List.all_nil, List.all_cons, List.take_nil, List.drop_nil, List.toList_toArray, Nat.reduceAdd, Nat.reduceSub, Nat.reduceEqDiff, Nat.reduceLeDiff, Nat.reduceLT, Nat.reduceMul, Nat.reduceBEq, ↓reduceIte, reduceCtorEq, Bool.false_eq_true, Bool.not_true, Bool.not_false, Bool.and_true, Bool.true_and, Bool.and_false, Bool.false_and, Bool.and_self, Bool.true_or, Bool.or_true, decide_true, decide_false, decide_eq_true_eq, decide_eq_false_iff_not, Int.not_lt, Int.not_le, not_true_eq_false, not_false_eq_true, and_self, and_true, true_and, Int.reduceLT, Int.reduceLE, Int.reduceGT, Int.reduceGE, Int.reduceBEq, Int.reduceBNe, Int.reduceEq, Int.reduceNe, Int.reduceAdd, Int.reduceSub, Int.reduceMul, Int.reduceNeg, Int.reduceToNat, ge_iff_le, gt_iff_lt, Bool.not_eq_true', List.cons.injEq, and_false, false_and, decide_not, Bool.not_eq_eq_eq_not, Option.getD_none, Int.cast_ofNat_Int, bne_self_eq_false, beq_self_eq_true, Int.toNat_natCast, List.getElem?_map, List.length_map, kFin, kGc, reached, kIds, nodupB, posOf, List.range_zero, List.range_succ, List.filter_cons, List.filter_nil, List.contains_cons, List.contains_nil, Bool.or_false, Bool.false_or, Bool.or_self, Nat.not_lt_zero, footR, footC, argsC, funC, totalMax, needsMax, padS, List.replicate, List.replicate_zero, List.replicate_succ, checkD, Rec.idle, apartRec, disjB, keysOf, direct, List.range', Array.any_toList, List.any_toArray, List.any_cons, List.any_nil, Nat.add_zero, Nat.zero_add, clone_row, clone_data]
    · obtain ⟨e, w2, q1, q2, q3⟩ := cut_any w1 hw2 b hb1 hb6
      obtain ⟨w', v', q⟩ := ih (i + 1) w2 v1 (lastV res x) (by omega) q2 hv2 (by rw [q3 a hab, hwa]) hva
      refine ⟨w', v', ?_⟩
      rw [← q, c_round]
      simp only [u8, Try.f8, hi, h0, hcd, hwr, ham, hnx, hnv, hsame, hdo, hz, q1, ruB, ruP, ru0, ru1, ru2, ru3, ru4, ru5, ru6, ru7, ru8, ru9, ru10, tys, fnSpec, bodyOf, resultsOf, Option.getD_some, ev, evO, Tm.get, Tm.put, clean, keepOf, loopsOf, newsOf, modeOf, boxesOf, callOf, ofValue, argsT, guardOf, guardV, oneOf, head, promote, Tm.refs, Code.first, AObj.live, back, callW, needs, binV, intOp, intCmp, shiftOp, isShift, eqOp, eqT, eqFs, scalarOf, asD, asDs, nilFor, nilOf, unV, convV, convB, bytesOf, extractV, indexV, idxA, idxD, fldA, fldV, ldV, stV, nilV, fnV, isConst, lenOf, countOf, sliceOf, maxV, boolOf, intOf, Env.fields, Env.arr, Env.elem, TD.isAgg, pieceD, pieceV, mkAgg, allD, putCells, D.put, buildV, fillV, arrPlaces, buildSliceV, sliceV, bounds, sliceStr, optInt, appendV, newList, makeSliceV, zeroD, zeroV, clearV, V.scal, V.scal1, D.scal, D.scal1, lent, kBorA, Option.map_some, Option.map_none, Option.bind_some, Option.bind_none, Option.some.injEq, List.map_cons, List.map_nil, List.length_cons, List.length_nil, List.getElem?_cons_zero, List.getElem?_cons_succ, List.getElem?_nil, List.getElem?_toArray, List.drop_succ_cons, List.drop_zero, List.take_succ_cons, List.take_zero, List.append_nil, List.nil_append, List.cons_append, List.set_cons_zero, List.set_cons_succ, List.head?_cons, List.headD_cons, List.isEmpty_nil, List.isEmpty_cons, List.all_nil, List.all_cons, List.take_nil, List.drop_nil, List.toList_toArray, Nat.reduceAdd, Nat.reduceSub, Nat.reduceEqDiff, Nat.reduceLeDiff, Nat.reduceLT, Nat.reduceMul, Nat.reduceBEq, ↓reduceIte, reduceCtorEq, Bool.false_eq_true, Bool.not_true, Bool.not_false, Bool.and_true, Bool.true_and, Bool.and_false, Bool.false_and, Bool.and_self, Bool.true_or, Bool.or_true, decide_true, decide_false, decide_eq_true_eq, decide_eq_false_iff_not, Int.not_lt, Int.not_le, not_true_eq_false, not_false_eq_true, and_self, and_true, true_and, Int.reduceLT, Int.reduceLE, Int.reduceGT, Int.reduceGE, Int.reduceBEq, Int.reduceBNe, Int.reduceEq, Int.reduceNe, Int.reduceAdd, Int.reduceSub, Int.reduceMul, Int.reduceNeg, Int.reduceToNat, ge_iff_le, gt_iff_lt, Bool.not_eq_true', List.cons.injEq, and_false, false_and, decide_not, Bool.not_eq_eq_eq_not, Option.getD_none, Int.cast_ofNat_Int, bne_self_eq_false, beq_self_eq_true, Int.toNat_natCast, List.getElem?_map, List.length_map, kFin, kGc, reached, kIds, nodupB, posOf, List.range_zero, List.range_succ, List.filter_cons, List.filter_nil, List.contains_cons, List.contains_nil, Bool.or_false, Bool.false_or, Bool.or_self, Nat.not_lt_zero, footR, footC, argsC, funC, totalMax, needsMax, padS, List.replicate, List.replicate_zero, List.replicate_succ, checkD, Rec.idle, apartRec, disjB, keysOf, direct, List.range', Array.any_toList, List.any_toArray, List.any_cons, List.any_nil, Nat.add_zero, Nat.zero_add, clone_row, clone_data]
    · obtain ⟨e, w2, q1, q2, q3⟩ := list_any w1 hw2 b hb1 hb6 c.n
      obtain ⟨w', v', q⟩ := ih (i + 1) w2 v1 (lastV res x) (by omega) q2 hv2 (by rw [q3 a hab, hwa]) hva
      refine ⟨w', v', ?_⟩
      rw [← q, c_round]
      simp only [u8, Try.f8, hi, h0, hcd, hwr, ham, hnx, hnv, hsame, hdo, hz, q1, ruB, ruP, ru0, ru1, ru2, ru3, ru4, ru5, ru6, ru7, ru8, ru9, ru10, tys, fnSpec, bodyOf, resultsOf, Option.getD_some, ev, evO, Tm.get, Tm.put, clean, keepOf, loopsOf, newsOf, modeOf, boxesOf, callOf, ofValue, argsT, guardOf, guardV, oneOf, head, promote, Tm.refs, Code.first, AObj.live, back, callW, needs, binV, intOp, intCmp, shiftOp, isShift, eqOp, eqT, eqFs, scalarOf, asD, asDs, nilFor, nilOf, unV, convV, convB, bytesOf, extractV, indexV, idxA, idxD, fldA, fldV, ldV, stV, nilV, fnV, isConst, lenOf, countOf, sliceOf, maxV, boolOf, intOf, Env.fields, Env.arr, Env.elem, TD.isAgg, pieceD, pieceV, mkAgg, allD, putCells, D.put, buildV, fillV, arrPlaces, buildSliceV, sliceV, bounds, sliceStr, optInt, appendV, newList, makeSliceV, zeroD, zeroV, clearV, V.scal, V.scal1, D.scal, D.scal1, lent, kBorA, Option.map_some, Option.map_none, Option.bind_some, Option.bind_none, Option.some.injEq, List.map_cons, List.map_nil, List.length_cons, List.length_nil, List.getElem?_cons_zero, List.getElem?_cons_succ, List.getElem?_nil, List.getElem?_toArray, List.drop_succ_cons, List.drop_zero, List.take_succ_cons, List.take_zero, List.append_nil, List.nil_append, List.cons_append, List.set_cons_zero, List.set_cons_succ, List.head?_cons, List.headD_cons, List.isEmpty_nil, List.isEmpty_cons, List.all_nil, List.all_cons, List.take_nil, List.drop_nil, List.toList_toArray, Nat.reduceAdd, Nat.reduceSub, Nat.reduceEqDiff, Nat.reduceLeDiff, Nat.reduceLT, Nat.reduceMul, Nat.reduceBEq, ↓reduceIte, reduceCtorEq, Bool.false_eq_true, Bool.not_true, Bool.not_false, Bool.and_true, Bool.true_and, Bool.and_false, Bool.false_and, Bool.and_self, Bool.true_or, Bool.or_true, decide_true, decide_false, decide_eq_true_eq, decide_eq_false_iff_not, Int.not_lt, Int.not_le, not_true_eq_false, not_false_eq_true, and_self, and_true, true_and, Int.reduceLT, Int.reduceLE, Int.reduceGT, Int.reduceGE, Int.reduceBEq, Int.reduceBNe, Int.reduceEq, Int.reduceNe, Int.reduceAdd, Int.reduceSub, Int.reduceMul, Int.reduceNeg, Int.reduceToNat, ge_iff_le, gt_iff_lt, Bool.not_eq_true', List.cons.injEq, and_false, false_and, decide_not, Bool.not_eq_eq_eq_not, Option.getD_none, Int.cast_ofNat_Int, bne_self_eq_false, beq_self_eq_true, Int.toNat_natCast, List.getElem?_map, List.length_map, kFin, kGc, reached, kIds, nodupB, posOf, List.range_zero, List.range_succ, List.filter_cons, List.filter_nil, List.contains_cons, List.contains_nil, Bool.or_false, Bool.false_or, Bool.or_self, Nat.not_lt_zero, footR, footC, argsC, funC, totalMax, needsMax, padS, List.replicate, List.replicate_zero, List.replicate_succ, checkD, Rec.idle, apartRec, disjB, keysOf, direct, List.range', Array.any_toList, List.any_toArray, List.any_cons, List.any_nil, Nat.add_zero, Nat.zero_add, clone_row, clone_data]
theorem fresh_at (a : Int) (k : Nat) (h1 : 1 ≤ k) (h6 : k ≤ 6) : (fresh a)[k]? = some (a, false) := by
  have : k = 1 ∨ k = 2 ∨ k = 3 ∨ k = 4 ∨ k = 5 ∨ k = 6 := by omega
  rcases this with rfl | rfl | rfl | rfl | rfl | rfl <;> rfl
theorem kind_of (c : Int) : ∃ k : Nat, (k : Int) = 1 + am c 6 ∧ 1 ≤ k ∧ k ≤ 6 ∧ IntKind.i64.wrap (1 + am c 6) = k := by
  have hnn := am_nn c 6 (by decide)
  have hlt := am_lt c 6 (by decide)
  refine ⟨(1 + am c 6).toNat, by omega, by omega, by omega, ?_⟩
  rw [wrap_i64 (by omega) (by omega)]
  omega
set_option maxHeartbeats 4000000 in
theorem watchApart_eq (ks : List Int) (hk : ks.length ≤ 1073741824) (ca cb : Int) (acts : List Act) (hn : acts.length ≤ 1073741824) :
    v8 [.d (.sl (ks.map (.int .i64))), .d (.int .i64 (ca)), .d (.int .i64 (cb)), .d (.sl (acts.map Act.d))] [] = some (.d (.bool true), []) := by
  have hlog := logged_eq ks hk
  have hl : (logL 0 ks).length ≤ 1073741824 := by rw [logL_length]; exact hk
  generalize logL 0 ks = log at hlog hl
  have hama := am_eq ca 6 (by decide) (by decide)
  have hamb := am_eq cb 6 (by decide) (by decide)
  obtain ⟨a, ea, ha1, ha6, hwa⟩ := kind_of ca
  obtain ⟨b, eb, hb1, hb6, hwb⟩ := kind_of cb
  have hw7 := works13_eq
  by_cases hab : a = b
  · subst hab
    simp only [u8, Try.f8, hw7, hlog, hama, hamb, hwa, hwb, ruB, ruP, ru0, ru1, ru2, ru3, ru4, ru5, ru6, ru7, ru8, ru9, ru10, tys, fnSpec, bodyOf, resultsOf, Option.getD_some, ev, evO, Tm.get, Tm.put, clean, keepOf, loopsOf, newsOf, modeOf, boxesOf, callOf, ofValue, argsT, guardOf, guardV, oneOf, head, promote, Tm.refs, Code.first, AObj.live, back, callW, needs, binV, intOp, intCmp, shiftOp, isShift, eqOp, eqT, eqFs, scalarOf, asD, asDs, nilFor, nilOf, unV, convV, convB, bytesOf, extractV, indexV, idxA, idxD, fldA, fldV, ldV, stV, nilV, fnV, isConst, lenOf, countOf, sliceOf, maxV, boolOf, intOf, Env.fields, Env.arr, Env.elem, TD.isAgg, pieceD, pieceV, mkAgg, allD, putCells, D.put, buildV, fillV, arrPlaces, buildSliceV, sliceV, bounds, sliceStr, optInt, appendV, newList, makeSliceV, zeroD, zeroV, clearV, V.scal, V.scal1, D.scal, D.scal1, lent, kBorA, Option.map_some, Option.map_none, Option.bind_some, Option.bind_none, Option.some.injEq, List.map_cons, List.map_nil, List.length_cons, List.length_nil, List.getElem?_cons_zero, List.getElem?_cons_succ, List.getElem?_nil, List.getElem?_toArray, List.drop_succ_cons, List.drop_zero, List.take_succ_cons, List.take_zero, List.append_nil, List.nil_append, List.cons_append, List.set_cons_zero, List.set_cons_succ, List.head?_cons, List.headD_cons, List.isEmpty_nil, List.isEmpty_cons, List.all_nil, List.all_cons, List.take_nil, List.drop_nil, List.toList_toArray, Nat.reduceAdd, Nat.reduceSub, Nat.reduceEqDiff, Nat.reduceLeDiff, Nat.reduceLT, Nat.reduceMul, Nat.reduceBEq, ↓reduceIte, reduceCtorEq, Bool.false_eq_true, Bool.not_true, Bool.not_false, Bool.and_true, Bool.true_and, Bool.and_false, Bool.false_and, Bool.and_self, Bool.true_or, Bool.or_true, decide_true, decide_false, decide_eq_true_eq, decide_eq_false_iff_not, Int.not_lt, Int.not_le, not_true_eq_false, not_false_eq_true, and_self, and_true, true_and, Int.reduceLT, Int.reduceLE, Int.reduceGT, Int.reduceGE, Int.reduceBEq, Int.reduceBNe, Int.reduceEq, Int.reduceNe, Int.reduceAdd, Int.reduceSub, Int.reduceMul, Int.reduceNeg, Int.reduceToNat, ge_iff_le, gt_iff_lt, Bool.not_eq_true', List.cons.injEq, and_false, false_and, decide_not, Bool.not_eq_eq_eq_not, Option.getD_none, Int.cast_ofNat_Int, bne_self_eq_false, beq_self_eq_true, Int.toNat_natCast, List.getElem?_map, List.length_map, kFin, kGc, reached, kIds, nodupB, posOf, List.range_zero, List.range_succ, List.filter_cons, List.filter_nil, List.contains_cons, List.contains_nil, Bool.or_false, Bool.false_or, Bool.or_self, Nat.not_lt_zero, footR, footC, argsC, funC, totalMax, needsMax, padS, List.replicate, List.replicate_zero, List.replicate_succ, checkD, Rec.idle, apartRec, disjB, keysOf, direct, List.range', Array.any_toList, List.any_toArray, List.any_cons, List.any_nil, Nat.add_zero, Nat.zero_add, clone_row, clone_data]
  · have hab' : ¬ (a : Int) = b := by omega
    obtain ⟨w', v', q4⟩ := apart_loop (bd := bodyAt Try.f8 11) rfl log hl a b ha1 ha6 hb1 hb6 hab acts hn acts.length 0 (fresh 0) (fresh 0) 0 (by omega) rfl rfl (fresh_at 0 a ha1 ha6) (fresh_at 0 a ha1 ha6)
    simp only [bodyAt, bodyOf, loop_seq, loop_cond, loop_block, loop_loop, loop_region, loop_skip, loop_ret, loop_exit, orE_some, orE_none, Code.first, Option.getD_some, Nat.reduceEqDiff, ↓reduceIte, Try.f8] at q4
    simp only [Int.cast_ofNat_Int] at q4
    have hnew := new_eq 0
    rw [show max (0 : Int) 0 = 0 from rfl] at hnew
    simp only [u8, Try.f8, hw7, hlog, hama, hamb, hwa, hwb, hab', hnew, q4, ruB, ruP, ru0, ru1, ru2, ru3, ru4, ru5, ru6, ru7, ru8, ru9, ru10, tys, fnSpec, bodyOf, resultsOf, Option.getD_some, ev, evO, Tm.get, Tm.put, clean, keepOf, loopsOf, newsOf, modeOf, boxesOf, callOf, ofValue, argsT, guardOf, guardV, oneOf, head, promote, Tm.refs, Code.first, AObj.live, back, callW, needs, binV, intOp, intCmp, shiftOp, isShift, eqOp, eqT, eqFs, scalarOf, asD, asDs, nilFor, nilOf, unV, convV, convB, bytesOf, extractV, indexV, idxA, idxD, fldA, fldV, ldV, stV, nilV, fnV, isConst, lenOf, countOf, sliceOf, maxV, boolOf, intOf, Env.fields, Env.arr, Env.elem, TD.isAgg, pieceD, pieceV, mkAgg, allD, putCells, D.put, buildV, fillV, arrPlaces, buildSliceV, sliceV, bounds, sliceStr, optInt, appendV, newList, makeSliceV, zeroD, zeroV, clearV, V.scal, V.scal1, D.scal, D.scal1, lent, kBorA, Option.map_some, Option.map_none, Option.bind_some, Option.bind_none, Option.some.injEq, List.map_cons, List.map_nil, List.length_cons, List.length_nil, List.getElem?_cons_zero, List.getElem?_cons_succ, List.getElem?_nil, List.getElem?_toArray, List.drop_succ_cons, List.drop_zero, List.take_succ_cons, List.take_zero, List.append_nil, List.nil_append, List.cons_append, List.set_cons_zero, List.set_cons_succ, List.head?_cons, List.headD_cons, List.isEmpty_nil, List.isEmpty_cons, List.all_nil, List.all_cons, List.take_nil, List.drop_nil, List.toList_toArray, Nat.reduceAdd, Nat.reduceSub, Nat.reduceEqDiff, Nat.reduceLeDiff, Nat.reduceLT, Nat.reduceMul, Nat.reduceBEq, ↓reduceIte, reduceCtorEq, Bool.false_eq_true, Bool.not_true, Bool.not_false, Bool.and_true, Bool.true_and, Bool.and_false, Bool.false_and, Bool.and_self, Bool.true_or, Bool.or_true, decide_true, decide_false, decide_eq_true_eq, decide_eq_false_iff_not, Int.not_lt, Int.not_le, not_true_eq_false, not_false_eq_true, and_self, and_true, true_and, Int.reduceLT, Int.reduceLE, Int.reduceGT, Int.reduceGE, Int.reduceBEq, Int.reduceBNe, Int.reduceEq, Int.reduceNe, Int.reduceAdd, Int.reduceSub, Int.reduceMul, Int.reduceNeg, Int.reduceToNat, ge_iff_le, gt_iff_lt, Bool.not_eq_true', List.cons.injEq, and_false, false_and, decide_not, Bool.not_eq_eq_eq_not, Option.getD_none, Int.cast_ofNat_Int, bne_self_eq_false, beq_self_eq_true, Int.toNat_natCast, List.getElem?_map, List.length_map, kFin, kGc, reached, kIds, nodupB, posOf, List.range_zero, List.range_succ, List.filter_cons, List.filter_nil, List.contains_cons, List.contains_nil, Bool.or_false, Bool.false_or, Bool.or_self, Nat.not_lt_zero, footR, footC, argsC, funC, totalMax, needsMax, padS, List.replicate, List.replicate_zero, List.replicate_succ, checkD, Rec.idle, apartRec, disjB, keysOf, direct, List.range', Array.any_toList, List.any_toArray, List.any_cons, List.any_nil, Nat.add_zero, Nat.zero_add, clone_row, clone_data]
end Go.Wm.Try1
