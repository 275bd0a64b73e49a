/-
  A part of the proof: an abstract run of the program, shown to be what the model does, and what it comes to.
-/
import Derived.Test.YtfopbbeieegfcaaVmRu
import Derived.Test.YtfopbbeieegfcaaWatch4
set_option linter.unusedSectionVars false
set_option linter.unnecessarySimpa false
set_option maxRecDepth 100000
set_option linter.unusedVariables false
set_option linter.unusedSimpArgs false
namespace Go.Vm.Try1
open Go Go.Vm Go.Proofs





set_option maxHeartbeats 4000000 in
theorem wworks : v14 [] [] = some (.d (.bool true), []) := by
  have hlog := logged_eq false [0, 1, 0] (by decide)
  have e : logL 0 [0, 1, 0] = [(1, 1), (2, 2), (3, 1)] := by decide
  rw [e] at hlog
  have n1 := next_1 0 0 0 0 0 0 0 false false false false false false false 1 (by decide) false [(1, 1), (2, 2), (3, 1)] (by decide)
  have e1 : someL 1 1 0 [(1, 1), (2, 2), (3, 1)] [] = [(1, 1)] := by decide
  rw [e1] at n1
  have l1 : lastV [(1, 1)] 0 = 1 := rfl
  rw [l1] at n1
  have bh := behind_1 0 1 0 0 0 0 0 false false false false false false false false [(1, 1), (2, 2), (3, 1)] (by decide)
  have e2 : someL ([(1, 1), (2, 2), (3, 1)] : List (Int × Int)).length 1 1 [(1, 1), (2, 2), (3, 1)] [] = [(3, 1)] := by decide
  rw [e2] at bh
  have n2 := next_2 0 1 0 0 0 0 0 false false false false false false false 9 (by decide) false [(1, 1), (2, 2), (3, 1)] (by decide)
  have e3 : someL 9 2 0 [(1, 1), (2, 2), (3, 1)] [] = [(2, 2)] := by decide
  rw [e3] at n2
  have l3 : lastV [(2, 2)] 0 = 2 := rfl
  rw [l3] at n2
  have sn := seen_1 0 1 2 0 0 0 0 false false false false false false false
  simp only [mkCh, List.map_cons, List.map_nil, List.isEmpty_cons, List.length_cons, List.length_nil, Nat.reduceAdd, Int.cast_ofNat_Int] at hlog n1 bh n2 sn
  simp (maxSteps := 1000000) only [v14, ty14, call14, nw14, kp14, lp14, calls14, news14, keep14, loops14, Try.f14, wnew_0, hlog, n1, bh, n2, sn, List.range_zero, ty_3,ty_4,ty_9,ty_22,ty_24,ty_27,ty_29,ty_36,ty_38,ty_39,ty_47,ty_49,ty_53,ty_55,ty_56,ty_57,ty_58,ty_59,ty_60,ty_61,ty_63,ty_64,ty_66,ty_68,ty_70,ty_72,ty_74,ty_76,ty_78,ty_81,ty_84,ty_86,ty_89,ty_90,ty_92,ty_95,ty_102,ty_104,ty_105,ty_109,ty_111,ty_115,ty_132,ty_134,ty_136,ty_138,ty_140,ty_142,ty_144, ru0, ru1, ru2, ru3, ru4, ru5, ru6, fnSpec, bodyOf, resultsOf, Option.getD_some, callFn, ev, evO, Tm.get, Tm.put, clean, keepOf, loopsOf, newsOf, callOf, ofValue, argsT, guardOf, oneOf, V.cast, head, promote, Tm.refs, Code.first, AObj.ren, AObj.live, back, callW, needs, binV, intOp, intCmp, eqOp, nilFor, nilOf, unV, convV, extractV, indexV, idxA, idxD, fldA, fldV, ldV, stV, nilV, fnV, lenOf, sliceOf, maxV, boolOf, intOf, Env.fields, Env.arr, Env.elem, TD.isAgg, pieceD, pieceV, mkAgg, allD, putCells, buildV, fillV, buildSliceV, sliceV, sliceSl, sliceStr, optInt, asD, asDs, appendV, Option.map_some, Option.map_none, Option.bind_some, Option.bind_none, Option.some.injEq, List.map_cons, List.map_nil, List.length_cons, List.length_nil, List.getElem?_cons_zero, List.getElem?_cons_succ, List.getElem?_nil, List.getElem?_toArray, List.drop_succ_cons, List.drop_zero, List.take_succ_cons, List.take_zero, List.append_nil, List.nil_append, List.cons_append, List.set_cons_zero, List.set_cons_succ, List.head?_cons, List.isEmpty_nil, List.isEmpty_cons, List.all_nil, List.all_cons, List.take_nil, List.drop_nil, Nat.reduceAdd, Nat.reduceSub, Nat.reduceEqDiff, Nat.reduceLeDiff, Nat.reduceLT, Nat.reduceMul, Nat.reduceBEq, ↓reduceIte, reduceCtorEq, Bool.false_eq_true, Bool.not_true, Bool.not_false, Bool.and_true, Bool.true_and, Bool.and_false, Bool.false_and, Bool.and_self, decide_true, decide_false, decide_eq_true_eq, decide_eq_false_iff_not, Int.not_lt, Int.not_le, not_true_eq_false, not_false_eq_true, and_self, and_true, true_and, Int.reduceLT, Int.reduceLE, Int.reduceGT, Int.reduceGE, Int.reduceBEq, Int.reduceBNe, Int.reduceEq, Int.reduceNe, Int.reduceAdd, Int.reduceSub, Int.reduceMul, Int.reduceNeg, Int.reduceToNat, ge_iff_le, gt_iff_lt, Bool.not_eq_true', ByteArray.mk.injEq, Array.mk.injEq, List.cons.injEq, and_false, false_and, decide_not, Bool.not_eq_eq_eq_not, Option.getD_none, Int.cast_ofNat_Int, bne_self_eq_false, beq_self_eq_true, Int.toNat_natCast, List.getElem?_map, List.length_map, kFin, kGc, reached, kIds, nodupB, posOf, AObj.unren, List.range_zero, List.range_succ, List.filter_cons, List.filter_nil, List.contains_cons, List.contains_nil, Bool.or_false, Bool.false_or, Bool.or_self, Nat.not_lt_zero, footR, totalMax, needsMax, padS, List.replicate, List.replicate_zero, List.replicate_succ, checkD, Rec.idle, apartRec, disjB, keysOf, direct, List.range', Array.any_toList, List.any_toArray, List.any_cons, List.any_nil, Nat.add_zero, Nat.zero_add]
set_option maxHeartbeats 4000000 in
theorem law11 (x y z : Int) : v11 [.d (.agg [.int .i64 x, .int .i64 y, .int .i64 z])] [] = some (.d (.bool true), []) := by
  simp (maxSteps := 1000000) only [v11, ty11, call11, nw11, kp11, lp11, calls11, news11, keep11, loops11, Try.f11, wworks, next_nil, next_zero, seen_nil, seen_zero, behind_nil, behind_zero, cut_nil, cut_zero, list_nil, list_zero, wclone_nil, wclone_zero, ty_3,ty_4,ty_9,ty_22,ty_24,ty_27,ty_29,ty_36,ty_38,ty_39,ty_47,ty_49,ty_53,ty_55,ty_56,ty_57,ty_58,ty_59,ty_60,ty_61,ty_63,ty_64,ty_66,ty_68,ty_70,ty_72,ty_74,ty_76,ty_78,ty_81,ty_84,ty_86,ty_89,ty_90,ty_92,ty_95,ty_102,ty_104,ty_105,ty_109,ty_111,ty_115,ty_132,ty_134,ty_136,ty_138,ty_140,ty_142,ty_144, ru0, ru1, ru2, ru3, ru4, ru5, ru6, fnSpec, bodyOf, resultsOf, Option.getD_some, callFn, ev, evO, Tm.get, Tm.put, clean, keepOf, loopsOf, newsOf, callOf, ofValue, argsT, guardOf, oneOf, V.cast, head, promote, Tm.refs, Code.first, AObj.ren, AObj.live, back, callW, needs, binV, intOp, intCmp, eqOp, nilFor, nilOf, unV, convV, extractV, indexV, idxA, idxD, fldA, fldV, ldV, stV, nilV, fnV, lenOf, sliceOf, maxV, boolOf, intOf, Env.fields, Env.arr, Env.elem, TD.isAgg, pieceD, pieceV, mkAgg, allD, putCells, buildV, fillV, buildSliceV, sliceV, sliceSl, sliceStr, optInt, asD, asDs, appendV, Option.map_some, Option.map_none, Option.bind_some, Option.bind_none, Option.some.injEq, List.map_cons, List.map_nil, List.length_cons, List.length_nil, List.getElem?_cons_zero, List.getElem?_cons_succ, List.getElem?_nil, List.getElem?_toArray, List.drop_succ_cons, List.drop_zero, List.take_succ_cons, List.take_zero, List.append_nil, List.nil_append, List.cons_append, List.set_cons_zero, List.set_cons_succ, List.head?_cons, List.isEmpty_nil, List.isEmpty_cons, List.all_nil, List.all_cons, List.take_nil, List.drop_nil, Nat.reduceAdd, Nat.reduceSub, Nat.reduceEqDiff, Nat.reduceLeDiff, Nat.reduceLT, Nat.reduceMul, Nat.reduceBEq, ↓reduceIte, reduceCtorEq, Bool.false_eq_true, Bool.not_true, Bool.not_false, Bool.and_true, Bool.true_and, Bool.and_false, Bool.false_and, Bool.and_self, decide_true, decide_false, decide_eq_true_eq, decide_eq_false_iff_not, Int.not_lt, Int.not_le, not_true_eq_false, not_false_eq_true, and_self, and_true, true_and, Int.reduceLT, Int.reduceLE, Int.reduceGT, Int.reduceGE, Int.reduceBEq, Int.reduceBNe, Int.reduceEq, Int.reduceNe, Int.reduceAdd, Int.reduceSub, Int.reduceMul, Int.reduceNeg, Int.reduceToNat, ge_iff_le, gt_iff_lt, Bool.not_eq_true', ByteArray.mk.injEq, Array.mk.injEq, List.cons.injEq, and_false, false_and, decide_not, Bool.not_eq_eq_eq_not, Option.getD_none, Int.cast_ofNat_Int, bne_self_eq_false, beq_self_eq_true, Int.toNat_natCast, List.getElem?_map, List.length_map, kFin, kGc, reached, kIds, nodupB, posOf, AObj.unren, List.range_zero, List.range_succ, List.filter_cons, List.filter_nil, List.contains_cons, List.contains_nil, Bool.or_false, Bool.false_or, Bool.or_self, Nat.not_lt_zero, footR, totalMax, needsMax, padS, List.replicate, List.replicate_zero, List.replicate_succ, checkD, Rec.idle, apartRec, disjB, keysOf, direct, List.range', Array.any_toList, List.any_toArray, List.any_cons, List.any_nil, Nat.add_zero, Nat.zero_add]
end Go.Vm.Try1
