/-
  A part of the proof: an abstract run of the program, shown to be what the model does, and what it comes to.
-/
import Derived.Test.YtfopbbeieegfcaaVmRu
import Derived.Test.YtfopbbeieegfcaaWatch7
set_option linter.unusedSectionVars false
set_option linter.unnecessarySimpa false
set_option maxRecDepth 100000
set_option linter.unusedVariables false
set_option linter.unusedSimpArgs false
namespace Go.Vm.Try1
open Go Go.Vm Go.Proofs







set_option maxHeartbeats 8000000 in
theorem law9 (nn : Bool) (ks : List Int) (kind n version : Int) (hl : ks.length ≤ 1048576) : v9 [.d (.sl nn 1 (ks.map (.int .i64))), .d (.int .i64 kind), .d (.int .i64 n), .d (.int .i64 version)] [] = some (.d (.bool true), []) := by
  have hlog := logged_eq nn ks (by omega)
  have hLl := logL_length 0 ks
  generalize logL 0 ks = L at hlog hLl
  have hw3 : IntKind.i64.wrap ((L.length : Int) + 3) = (L.length : Int) + 3 := wrap_i64 (by omega) (by omega)
  have ha1 := among_eq kind 6 (by decide) (by decide)
  have ha2 := among_eq version ((L.length : Int) + 3) (by omega) (by omega)
  have ha3 := among_eq n 9 (by decide) (by decide)
  have g1 := Int.emod_nonneg (kind % 18446744073709551616) (by decide : (6 : Int) ≠ 0)
  have g2 := Int.emod_lt_of_pos (kind % 18446744073709551616) (by decide : (0 : Int) < 6)
  have g3 := Int.emod_nonneg (version % 18446744073709551616) (by omega : (L.length : Int) + 3 ≠ 0)
  have g4 := Int.emod_nonneg (n % 18446744073709551616) (by decide : (9 : Int) ≠ 0)
  generalize kind % 18446744073709551616 % 6 = d at ha1 g1 g2
  generalize version % 18446744073709551616 % ((L.length : Int) + 3) = e at ha2 g3
  generalize n % 18446744073709551616 % 9 = f at ha3 g4
  have hd : d = 0 ∨ d = 1 ∨ d = 2 ∨ d = 3 ∨ d = 4 ∨ d = 5 := by omega
  rcases hd with rfl | rfl | rfl | rfl | rfl | rfl
  · have n1 := next_1 0 (0) 0 0 0 0 0 false false false false false false false f g4 false L (by omega)
    generalize lastV (someL f 1 0 L []) 0 = a at n1
    generalize someL f 1 0 L [] = r1 at n1
    have c1 := cut_1 0 (a) 0 0 0 0 0 false false false false false false false
    have c2 := cut2_1 0 (a) 0 0 0 0 0 false false false false false false false
    have gn := gone_1 0 (a) 0 0 0 0 0 false false false false false false false 9 (by decide) false L
    have ls := list_1 0 (a) 0 0 0 0 0 false true false false false false false e g3
    have n2 := next_1 0 (e) 0 0 0 0 0 false false false false false false false (L.length : Int) (by omega) false L (by omega)
    rw [someL_all (L.length : Int) 1 e L [] (by simp), List.nil_append] at n2
    have rs := rest_eq 1 e false L (by omega)
    have hall : ∀ p ∈ restL 1 e L, e < p.1 ∧ p.2 = 1 := fun p hp => by
      have := (List.mem_filter.1 hp).2
      simp at this
      exact ⟨this.2, this.1⟩
    have hrl : (restL 1 e L).length ≤ L.length := List.length_filter_le _ _
    generalize restL 1 e L = R at n2 rs hall hrl
    generalize lastV R e = a' at n2
    have hloop := loop9_1 (b := bodyAt Try.f9 16) rfl e (R.map fun p => mkCh p.1 p.2).isEmpty L R (by omega) hall R.length 0 (by omega)
    simp only [bodyAt, bodyOf, loop_seq, loop_cond, loop_block, loop_loop, loop_region, loop_skip, loop_ret, loop_exit, orE_some, orE_none, Code.first, Option.getD_some, Nat.reduceEqDiff, ↓reduceIte, Try.f9] at hloop
    simp only [Int.cast_ofNat_Int] at hloop
    simp (maxSteps := 1000000) only [v9, ty9, call9, nw9, kp9, lp9, calls9, news9, keep9, loops9, Try.f9, wworks, wnew_0, hlog, hw3, ha1, ha2, ha3, n1, c1, c2, gn, ls, n2, rs, hloop, ty_3,ty_4,ty_9,ty_22,ty_24,ty_27,ty_29,ty_36,ty_38,ty_39,ty_47,ty_49,ty_53,ty_55,ty_56,ty_57,ty_58,ty_59,ty_60,ty_61,ty_63,ty_64,ty_66,ty_68,ty_70,ty_72,ty_74,ty_76,ty_78,ty_81,ty_84,ty_86,ty_89,ty_90,ty_92,ty_95,ty_102,ty_104,ty_105,ty_109,ty_111,ty_115,ty_132,ty_134,ty_136,ty_138,ty_140,ty_142,ty_144, ru0, ru1, ru2, ru3, ru4, ru5, ru6, fnSpec, bodyOf, resultsOf, Option.getD_some, callFn, ev, evO, Tm.get, Tm.put, clean, keepOf, loopsOf, newsOf, callOf, ofValue, argsT, guardOf, oneOf, V.cast, head, promote, Tm.refs, Code.first, AObj.ren, AObj.live, back, callW, needs, binV, intOp, intCmp, eqOp, nilFor, nilOf, unV, convV, extractV, indexV, idxA, idxD, fldA, fldV, ldV, stV, nilV, fnV, lenOf, sliceOf, maxV, boolOf, intOf, Env.fields, Env.arr, Env.elem, TD.isAgg, pieceD, pieceV, mkAgg, allD, putCells, buildV, fillV, buildSliceV, sliceV, sliceSl, sliceStr, optInt, asD, asDs, appendV, Option.map_some, Option.map_none, Option.bind_some, Option.bind_none, Option.some.injEq, List.map_cons, List.map_nil, List.length_cons, List.length_nil, List.getElem?_cons_zero, List.getElem?_cons_succ, List.getElem?_nil, List.getElem?_toArray, List.drop_succ_cons, List.drop_zero, List.take_succ_cons, List.take_zero, List.append_nil, List.nil_append, List.cons_append, List.set_cons_zero, List.set_cons_succ, List.head?_cons, List.isEmpty_nil, List.isEmpty_cons, List.all_nil, List.all_cons, List.take_nil, List.drop_nil, Nat.reduceAdd, Nat.reduceSub, Nat.reduceEqDiff, Nat.reduceLeDiff, Nat.reduceLT, Nat.reduceMul, Nat.reduceBEq, ↓reduceIte, reduceCtorEq, Bool.false_eq_true, Bool.not_true, Bool.not_false, Bool.and_true, Bool.true_and, Bool.and_false, Bool.false_and, Bool.and_self, decide_true, decide_false, decide_eq_true_eq, decide_eq_false_iff_not, Int.not_lt, Int.not_le, not_true_eq_false, not_false_eq_true, and_self, and_true, true_and, Int.reduceLT, Int.reduceLE, Int.reduceGT, Int.reduceGE, Int.reduceBEq, Int.reduceBNe, Int.reduceEq, Int.reduceNe, Int.reduceAdd, Int.reduceSub, Int.reduceMul, Int.reduceNeg, Int.reduceToNat, ge_iff_le, gt_iff_lt, Bool.not_eq_true', ByteArray.mk.injEq, Array.mk.injEq, List.cons.injEq, and_false, false_and, decide_not, Bool.not_eq_eq_eq_not, Option.getD_none, Int.cast_ofNat_Int, bne_self_eq_false, beq_self_eq_true, Int.toNat_natCast, List.getElem?_map, List.length_map, kFin, kGc, reached, kIds, nodupB, posOf, AObj.unren, List.range_zero, List.range_succ, List.filter_cons, List.filter_nil, List.contains_cons, List.contains_nil, Bool.or_false, Bool.false_or, Bool.or_self, Nat.not_lt_zero, footR, totalMax, needsMax, padS, List.replicate, List.replicate_zero, List.replicate_succ, checkD, Rec.idle, apartRec, disjB, keysOf, direct, List.range', Array.any_toList, List.any_toArray, List.any_cons, List.any_nil, Nat.add_zero, Nat.zero_add]
  · have n1 := next_2 0 0 (0) 0 0 0 0 false false false false false false false f g4 false L (by omega)
    generalize lastV (someL f 2 0 L []) 0 = a at n1
    generalize someL f 2 0 L [] = r1 at n1
    have c1 := cut_2 0 0 (a) 0 0 0 0 false false false false false false false
    have c2 := cut2_2 0 0 (a) 0 0 0 0 false false false false false false false
    have gn := gone_2 0 0 (a) 0 0 0 0 false false false false false false false 9 (by decide) false L
    have ls := list_2 0 0 (a) 0 0 0 0 false false true false false false false e g3
    have n2 := next_2 0 0 (e) 0 0 0 0 false false false false false false false (L.length : Int) (by omega) false L (by omega)
    rw [someL_all (L.length : Int) 2 e L [] (by simp), List.nil_append] at n2
    have rs := rest_eq 2 e false L (by omega)
    have hall : ∀ p ∈ restL 2 e L, e < p.1 ∧ p.2 = 2 := fun p hp => by
      have := (List.mem_filter.1 hp).2
      simp at this
      exact ⟨this.2, this.1⟩
    have hrl : (restL 2 e L).length ≤ L.length := List.length_filter_le _ _
    generalize restL 2 e L = R at n2 rs hall hrl
    generalize lastV R e = a' at n2
    have hloop := loop9_2 (b := bodyAt Try.f9 16) rfl e (R.map fun p => mkCh p.1 p.2).isEmpty L R (by omega) hall R.length 0 (by omega)
    simp only [bodyAt, bodyOf, loop_seq, loop_cond, loop_block, loop_loop, loop_region, loop_skip, loop_ret, loop_exit, orE_some, orE_none, Code.first, Option.getD_some, Nat.reduceEqDiff, ↓reduceIte, Try.f9] at hloop
    simp only [Int.cast_ofNat_Int] at hloop
    simp (maxSteps := 1000000) only [v9, ty9, call9, nw9, kp9, lp9, calls9, news9, keep9, loops9, Try.f9, wworks, wnew_0, hlog, hw3, ha1, ha2, ha3, n1, c1, c2, gn, ls, n2, rs, hloop, ty_3,ty_4,ty_9,ty_22,ty_24,ty_27,ty_29,ty_36,ty_38,ty_39,ty_47,ty_49,ty_53,ty_55,ty_56,ty_57,ty_58,ty_59,ty_60,ty_61,ty_63,ty_64,ty_66,ty_68,ty_70,ty_72,ty_74,ty_76,ty_78,ty_81,ty_84,ty_86,ty_89,ty_90,ty_92,ty_95,ty_102,ty_104,ty_105,ty_109,ty_111,ty_115,ty_132,ty_134,ty_136,ty_138,ty_140,ty_142,ty_144, ru0, ru1, ru2, ru3, ru4, ru5, ru6, fnSpec, bodyOf, resultsOf, Option.getD_some, callFn, ev, evO, Tm.get, Tm.put, clean, keepOf, loopsOf, newsOf, callOf, ofValue, argsT, guardOf, oneOf, V.cast, head, promote, Tm.refs, Code.first, AObj.ren, AObj.live, back, callW, needs, binV, intOp, intCmp, eqOp, nilFor, nilOf, unV, convV, extractV, indexV, idxA, idxD, fldA, fldV, ldV, stV, nilV, fnV, lenOf, sliceOf, maxV, boolOf, intOf, Env.fields, Env.arr, Env.elem, TD.isAgg, pieceD, pieceV, mkAgg, allD, putCells, buildV, fillV, buildSliceV, sliceV, sliceSl, sliceStr, optInt, asD, asDs, appendV, Option.map_some, Option.map_none, Option.bind_some, Option.bind_none, Option.some.injEq, List.map_cons, List.map_nil, List.length_cons, List.length_nil, List.getElem?_cons_zero, List.getElem?_cons_succ, List.getElem?_nil, List.getElem?_toArray, List.drop_succ_cons, List.drop_zero, List.take_succ_cons, List.take_zero, List.append_nil, List.nil_append, List.cons_append, List.set_cons_zero, List.set_cons_succ, List.head?_cons, List.isEmpty_nil, List.isEmpty_cons, List.all_nil, List.all_cons, List.take_nil, List.drop_nil, Nat.reduceAdd, Nat.reduceSub, Nat.reduceEqDiff, Nat.reduceLeDiff, Nat.reduceLT, Nat.reduceMul, Nat.reduceBEq, ↓reduceIte, reduceCtorEq, Bool.false_eq_true, Bool.not_true, Bool.not_false, Bool.and_true, Bool.true_and, Bool.and_false, Bool.false_and, Bool.and_self, decide_true, decide_false, decide_eq_true_eq, decide_eq_false_iff_not, Int.not_lt, Int.not_le, not_true_eq_false, not_false_eq_true, and_self, and_true, true_and, Int.reduceLT, Int.reduceLE, Int.reduceGT, Int.reduceGE, Int.reduceBEq, Int.reduceBNe, Int.reduceEq, Int.reduceNe, Int.reduceAdd, Int.reduceSub, Int.reduceMul, Int.reduceNeg, Int.reduceToNat, ge_iff_le, gt_iff_lt, Bool.not_eq_true', ByteArray.mk.injEq, Array.mk.injEq, List.cons.injEq, and_false, false_and, decide_not, Bool.not_eq_eq_eq_not, Option.getD_none, Int.cast_ofNat_Int, bne_self_eq_false, beq_self_eq_true, Int.toNat_natCast, List.getElem?_map, List.length_map, kFin, kGc, reached, kIds, nodupB, posOf, AObj.unren, List.range_zero, List.range_succ, List.filter_cons, List.filter_nil, List.contains_cons, List.contains_nil, Bool.or_false, Bool.false_or, Bool.or_self, Nat.not_lt_zero, footR, totalMax, needsMax, padS, List.replicate, List.replicate_zero, List.replicate_succ, checkD, Rec.idle, apartRec, disjB, keysOf, direct, List.range', Array.any_toList, List.any_toArray, List.any_cons, List.any_nil, Nat.add_zero, Nat.zero_add]
  · have n1 := next_3 0 0 0 (0) 0 0 0 false false false false false false false f g4 false L (by omega)
    generalize lastV (someL f 3 0 L []) 0 = a at n1
    generalize someL f 3 0 L [] = r1 at n1
    have c1 := cut_3 0 0 0 (a) 0 0 0 false false false false false false false
    have c2 := cut2_3 0 0 0 (a) 0 0 0 false false false false false false false
    have gn := gone_3 0 0 0 (a) 0 0 0 false false false false false false false 9 (by decide) false L
    have ls := list_3 0 0 0 (a) 0 0 0 false false false true false false false e g3
    have n2 := next_3 0 0 0 (e) 0 0 0 false false false false false false false (L.length : Int) (by omega) false L (by omega)
    rw [someL_all (L.length : Int) 3 e L [] (by simp), List.nil_append] at n2
    have rs := rest_eq 3 e false L (by omega)
    have hall : ∀ p ∈ restL 3 e L, e < p.1 ∧ p.2 = 3 := fun p hp => by
      have := (List.mem_filter.1 hp).2
      simp at this
      exact ⟨this.2, this.1⟩
    have hrl : (restL 3 e L).length ≤ L.length := List.length_filter_le _ _
    generalize restL 3 e L = R at n2 rs hall hrl
    generalize lastV R e = a' at n2
    have hloop := loop9_3 (b := bodyAt Try.f9 16) rfl e (R.map fun p => mkCh p.1 p.2).isEmpty L R (by omega) hall R.length 0 (by omega)
    simp only [bodyAt, bodyOf, loop_seq, loop_cond, loop_block, loop_loop, loop_region, loop_skip, loop_ret, loop_exit, orE_some, orE_none, Code.first, Option.getD_some, Nat.reduceEqDiff, ↓reduceIte, Try.f9] at hloop
    simp only [Int.cast_ofNat_Int] at hloop
    simp (maxSteps := 1000000) only [v9, ty9, call9, nw9, kp9, lp9, calls9, news9, keep9, loops9, Try.f9, wworks, wnew_0, hlog, hw3, ha1, ha2, ha3, n1, c1, c2, gn, ls, n2, rs, hloop, ty_3,ty_4,ty_9,ty_22,ty_24,ty_27,ty_29,ty_36,ty_38,ty_39,ty_47,ty_49,ty_53,ty_55,ty_56,ty_57,ty_58,ty_59,ty_60,ty_61,ty_63,ty_64,ty_66,ty_68,ty_70,ty_72,ty_74,ty_76,ty_78,ty_81,ty_84,ty_86,ty_89,ty_90,ty_92,ty_95,ty_102,ty_104,ty_105,ty_109,ty_111,ty_115,ty_132,ty_134,ty_136,ty_138,ty_140,ty_142,ty_144, ru0, ru1, ru2, ru3, ru4, ru5, ru6, fnSpec, bodyOf, resultsOf, Option.getD_some, callFn, ev, evO, Tm.get, Tm.put, clean, keepOf, loopsOf, newsOf, callOf, ofValue, argsT, guardOf, oneOf, V.cast, head, promote, Tm.refs, Code.first, AObj.ren, AObj.live, back, callW, needs, binV, intOp, intCmp, eqOp, nilFor, nilOf, unV, convV, extractV, indexV, idxA, idxD, fldA, fldV, ldV, stV, nilV, fnV, lenOf, sliceOf, maxV, boolOf, intOf, Env.fields, Env.arr, Env.elem, TD.isAgg, pieceD, pieceV, mkAgg, allD, putCells, buildV, fillV, buildSliceV, sliceV, sliceSl, sliceStr, optInt, asD, asDs, appendV, Option.map_some, Option.map_none, Option.bind_some, Option.bind_none, Option.some.injEq, List.map_cons, List.map_nil, List.length_cons, List.length_nil, List.getElem?_cons_zero, List.getElem?_cons_succ, List.getElem?_nil, List.getElem?_toArray, List.drop_succ_cons, List.drop_zero, List.take_succ_cons, List.take_zero, List.append_nil, List.nil_append, List.cons_append, List.set_cons_zero, List.set_cons_succ, List.head?_cons, List.isEmpty_nil, List.isEmpty_cons, List.all_nil, List.all_cons, List.take_nil, List.drop_nil, Nat.reduceAdd, Nat.reduceSub, Nat.reduceEqDiff, Nat.reduceLeDiff, Nat.reduceLT, Nat.reduceMul, Nat.reduceBEq, ↓reduceIte, reduceCtorEq, Bool.false_eq_true, Bool.not_true, Bool.not_false, Bool.and_true, Bool.true_and, Bool.and_false, Bool.false_and, Bool.and_self, decide_true, decide_false, decide_eq_true_eq, decide_eq_false_iff_not, Int.not_lt, Int.not_le, not_true_eq_false, not_false_eq_true, and_self, and_true, true_and, Int.reduceLT, Int.reduceLE, Int.reduceGT, Int.reduceGE, Int.reduceBEq, Int.reduceBNe, Int.reduceEq, Int.reduceNe, Int.reduceAdd, Int.reduceSub, Int.reduceMul, Int.reduceNeg, Int.reduceToNat, ge_iff_le, gt_iff_lt, Bool.not_eq_true', ByteArray.mk.injEq, Array.mk.injEq, List.cons.injEq, and_false, false_and, decide_not, Bool.not_eq_eq_eq_not, Option.getD_none, Int.cast_ofNat_Int, bne_self_eq_false, beq_self_eq_true, Int.toNat_natCast, List.getElem?_map, List.length_map, kFin, kGc, reached, kIds, nodupB, posOf, AObj.unren, List.range_zero, List.range_succ, List.filter_cons, List.filter_nil, List.contains_cons, List.contains_nil, Bool.or_false, Bool.false_or, Bool.or_self, Nat.not_lt_zero, footR, totalMax, needsMax, padS, List.replicate, List.replicate_zero, List.replicate_succ, checkD, Rec.idle, apartRec, disjB, keysOf, direct, List.range', Array.any_toList, List.any_toArray, List.any_cons, List.any_nil, Nat.add_zero, Nat.zero_add]
  · have n1 := next_4 0 0 0 0 (0) 0 0 false false false false false false false f g4 false L (by omega)
    generalize lastV (someL f 4 0 L []) 0 = a at n1
    generalize someL f 4 0 L [] = r1 at n1
    have c1 := cut_4 0 0 0 0 (a) 0 0 false false false false false false false
    have c2 := cut2_4 0 0 0 0 (a) 0 0 false false false false false false false
    have gn := gone_4 0 0 0 0 (a) 0 0 false false false false false false false 9 (by decide) false L
    have ls := list_4 0 0 0 0 (a) 0 0 false false false false true false false e g3
    have n2 := next_4 0 0 0 0 (e) 0 0 false false false false false false false (L.length : Int) (by omega) false L (by omega)
    rw [someL_all (L.length : Int) 4 e L [] (by simp), List.nil_append] at n2
    have rs := rest_eq 4 e false L (by omega)
    have hall : ∀ p ∈ restL 4 e L, e < p.1 ∧ p.2 = 4 := fun p hp => by
      have := (List.mem_filter.1 hp).2
      simp at this
      exact ⟨this.2, this.1⟩
    have hrl : (restL 4 e L).length ≤ L.length := List.length_filter_le _ _
    generalize restL 4 e L = R at n2 rs hall hrl
    generalize lastV R e = a' at n2
    have hloop := loop9_4 (b := bodyAt Try.f9 16) rfl e (R.map fun p => mkCh p.1 p.2).isEmpty L R (by omega) hall R.length 0 (by omega)
    simp only [bodyAt, bodyOf, loop_seq, loop_cond, loop_block, loop_loop, loop_region, loop_skip, loop_ret, loop_exit, orE_some, orE_none, Code.first, Option.getD_some, Nat.reduceEqDiff, ↓reduceIte, Try.f9] at hloop
    simp only [Int.cast_ofNat_Int] at hloop
    simp (maxSteps := 1000000) only [v9, ty9, call9, nw9, kp9, lp9, calls9, news9, keep9, loops9, Try.f9, wworks, wnew_0, hlog, hw3, ha1, ha2, ha3, n1, c1, c2, gn, ls, n2, rs, hloop, ty_3,ty_4,ty_9,ty_22,ty_24,ty_27,ty_29,ty_36,ty_38,ty_39,ty_47,ty_49,ty_53,ty_55,ty_56,ty_57,ty_58,ty_59,ty_60,ty_61,ty_63,ty_64,ty_66,ty_68,ty_70,ty_72,ty_74,ty_76,ty_78,ty_81,ty_84,ty_86,ty_89,ty_90,ty_92,ty_95,ty_102,ty_104,ty_105,ty_109,ty_111,ty_115,ty_132,ty_134,ty_136,ty_138,ty_140,ty_142,ty_144, ru0, ru1, ru2, ru3, ru4, ru5, ru6, fnSpec, bodyOf, resultsOf, Option.getD_some, callFn, ev, evO, Tm.get, Tm.put, clean, keepOf, loopsOf, newsOf, callOf, ofValue, argsT, guardOf, oneOf, V.cast, head, promote, Tm.refs, Code.first, AObj.ren, AObj.live, back, callW, needs, binV, intOp, intCmp, eqOp, nilFor, nilOf, unV, convV, extractV, indexV, idxA, idxD, fldA, fldV, ldV, stV, nilV, fnV, lenOf, sliceOf, maxV, boolOf, intOf, Env.fields, Env.arr, Env.elem, TD.isAgg, pieceD, pieceV, mkAgg, allD, putCells, buildV, fillV, buildSliceV, sliceV, sliceSl, sliceStr, optInt, asD, asDs, appendV, Option.map_some, Option.map_none, Option.bind_some, Option.bind_none, Option.some.injEq, List.map_cons, List.map_nil, List.length_cons, List.length_nil, List.getElem?_cons_zero, List.getElem?_cons_succ, List.getElem?_nil, List.getElem?_toArray, List.drop_succ_cons, List.drop_zero, List.take_succ_cons, List.take_zero, List.append_nil, List.nil_append, List.cons_append, List.set_cons_zero, List.set_cons_succ, List.head?_cons, List.isEmpty_nil, List.isEmpty_cons, List.all_nil, List.all_cons, List.take_nil, List.drop_nil, Nat.reduceAdd, Nat.reduceSub, Nat.reduceEqDiff, Nat.reduceLeDiff, Nat.reduceLT, Nat.reduceMul, Nat.reduceBEq, ↓reduceIte, reduceCtorEq, Bool.false_eq_true, Bool.not_true, Bool.not_false, Bool.and_true, Bool.true_and, Bool.and_false, Bool.false_and, Bool.and_self, decide_true, decide_false, decide_eq_true_eq, decide_eq_false_iff_not, Int.not_lt, Int.not_le, not_true_eq_false, not_false_eq_true, and_self, and_true, true_and, Int.reduceLT, Int.reduceLE, Int.reduceGT, Int.reduceGE, Int.reduceBEq, Int.reduceBNe, Int.reduceEq, Int.reduceNe, Int.reduceAdd, Int.reduceSub, Int.reduceMul, Int.reduceNeg, Int.reduceToNat, ge_iff_le, gt_iff_lt, Bool.not_eq_true', ByteArray.mk.injEq, Array.mk.injEq, List.cons.injEq, and_false, false_and, decide_not, Bool.not_eq_eq_eq_not, Option.getD_none, Int.cast_ofNat_Int, bne_self_eq_false, beq_self_eq_true, Int.toNat_natCast, List.getElem?_map, List.length_map, kFin, kGc, reached, kIds, nodupB, posOf, AObj.unren, List.range_zero, List.range_succ, List.filter_cons, List.filter_nil, List.contains_cons, List.contains_nil, Bool.or_false, Bool.false_or, Bool.or_self, Nat.not_lt_zero, footR, totalMax, needsMax, padS, List.replicate, List.replicate_zero, List.replicate_succ, checkD, Rec.idle, apartRec, disjB, keysOf, direct, List.range', Array.any_toList, List.any_toArray, List.any_cons, List.any_nil, Nat.add_zero, Nat.zero_add]
  · have n1 := next_5 0 0 0 0 0 (0) 0 false false false false false false false f g4 false L (by omega)
    generalize lastV (someL f 5 0 L []) 0 = a at n1
    generalize someL f 5 0 L [] = r1 at n1
    have c1 := cut_5 0 0 0 0 0 (a) 0 false false false false false false false
    have c2 := cut2_5 0 0 0 0 0 (a) 0 false false false false false false false
    have gn := gone_5 0 0 0 0 0 (a) 0 false false false false false false false 9 (by decide) false L
    have ls := list_5 0 0 0 0 0 (a) 0 false false false false false true false e g3
    have n2 := next_5 0 0 0 0 0 (e) 0 false false false false false false false (L.length : Int) (by omega) false L (by omega)
    rw [someL_all (L.length : Int) 5 e L [] (by simp), List.nil_append] at n2
    have rs := rest_eq 5 e false L (by omega)
    have hall : ∀ p ∈ restL 5 e L, e < p.1 ∧ p.2 = 5 := fun p hp => by
      have := (List.mem_filter.1 hp).2
      simp at this
      exact ⟨this.2, this.1⟩
    have hrl : (restL 5 e L).length ≤ L.length := List.length_filter_le _ _
    generalize restL 5 e L = R at n2 rs hall hrl
    generalize lastV R e = a' at n2
    have hloop := loop9_5 (b := bodyAt Try.f9 16) rfl e (R.map fun p => mkCh p.1 p.2).isEmpty L R (by omega) hall R.length 0 (by omega)
    simp only [bodyAt, bodyOf, loop_seq, loop_cond, loop_block, loop_loop, loop_region, loop_skip, loop_ret, loop_exit, orE_some, orE_none, Code.first, Option.getD_some, Nat.reduceEqDiff, ↓reduceIte, Try.f9] at hloop
    simp only [Int.cast_ofNat_Int] at hloop
    simp (maxSteps := 1000000) only [v9, ty9, call9, nw9, kp9, lp9, calls9, news9, keep9, loops9, Try.f9, wworks, wnew_0, hlog, hw3, ha1, ha2, ha3, n1, c1, c2, gn, ls, n2, rs, hloop, ty_3,ty_4,ty_9,ty_22,ty_24,ty_27,ty_29,ty_36,ty_38,ty_39,ty_47,ty_49,ty_53,ty_55,ty_56,ty_57,ty_58,ty_59,ty_60,ty_61,ty_63,ty_64,ty_66,ty_68,ty_70,ty_72,ty_74,ty_76,ty_78,ty_81,ty_84,ty_86,ty_89,ty_90,ty_92,ty_95,ty_102,ty_104,ty_105,ty_109,ty_111,ty_115,ty_132,ty_134,ty_136,ty_138,ty_140,ty_142,ty_144, ru0, ru1, ru2, ru3, ru4, ru5, ru6, fnSpec, bodyOf, resultsOf, Option.getD_some, callFn, ev, evO, Tm.get, Tm.put, clean, keepOf, loopsOf, newsOf, callOf, ofValue, argsT, guardOf, oneOf, V.cast, head, promote, Tm.refs, Code.first, AObj.ren, AObj.live, back, callW, needs, binV, intOp, intCmp, eqOp, nilFor, nilOf, unV, convV, extractV, indexV, idxA, idxD, fldA, fldV, ldV, stV, nilV, fnV, lenOf, sliceOf, maxV, boolOf, intOf, Env.fields, Env.arr, Env.elem, TD.isAgg, pieceD, pieceV, mkAgg, allD, putCells, buildV, fillV, buildSliceV, sliceV, sliceSl, sliceStr, optInt, asD, asDs, appendV, Option.map_some, Option.map_none, Option.bind_some, Option.bind_none, Option.some.injEq, List.map_cons, List.map_nil, List.length_cons, List.length_nil, List.getElem?_cons_zero, List.getElem?_cons_succ, List.getElem?_nil, List.getElem?_toArray, List.drop_succ_cons, List.drop_zero, List.take_succ_cons, List.take_zero, List.append_nil, List.nil_append, List.cons_append, List.set_cons_zero, List.set_cons_succ, List.head?_cons, List.isEmpty_nil, List.isEmpty_cons, List.all_nil, List.all_cons, List.take_nil, List.drop_nil, Nat.reduceAdd, Nat.reduceSub, Nat.reduceEqDiff, Nat.reduceLeDiff, Nat.reduceLT, Nat.reduceMul, Nat.reduceBEq, ↓reduceIte, reduceCtorEq, Bool.false_eq_true, Bool.not_true, Bool.not_false, Bool.and_true, Bool.true_and, Bool.and_false, Bool.false_and, Bool.and_self, decide_true, decide_false, decide_eq_true_eq, decide_eq_false_iff_not, Int.not_lt, Int.not_le, not_true_eq_false, not_false_eq_true, and_self, and_true, true_and, Int.reduceLT, Int.reduceLE, Int.reduceGT, Int.reduceGE, Int.reduceBEq, Int.reduceBNe, Int.reduceEq, Int.reduceNe, Int.reduceAdd, Int.reduceSub, Int.reduceMul, Int.reduceNeg, Int.reduceToNat, ge_iff_le, gt_iff_lt, Bool.not_eq_true', ByteArray.mk.injEq, Array.mk.injEq, List.cons.injEq, and_false, false_and, decide_not, Bool.not_eq_eq_eq_not, Option.getD_none, Int.cast_ofNat_Int, bne_self_eq_false, beq_self_eq_true, Int.toNat_natCast, List.getElem?_map, List.length_map, kFin, kGc, reached, kIds, nodupB, posOf, AObj.unren, List.range_zero, List.range_succ, List.filter_cons, List.filter_nil, List.contains_cons, List.contains_nil, Bool.or_false, Bool.false_or, Bool.or_self, Nat.not_lt_zero, footR, totalMax, needsMax, padS, List.replicate, List.replicate_zero, List.replicate_succ, checkD, Rec.idle, apartRec, disjB, keysOf, direct, List.range', Array.any_toList, List.any_toArray, List.any_cons, List.any_nil, Nat.add_zero, Nat.zero_add]
  · have n1 := next_6 0 0 0 0 0 0 (0) false false false false false false false f g4 false L (by omega)
    generalize lastV (someL f 6 0 L []) 0 = a at n1
    generalize someL f 6 0 L [] = r1 at n1
    have c1 := cut_6 0 0 0 0 0 0 (a) false false false false false false false
    have c2 := cut2_6 0 0 0 0 0 0 (a) false false false false false false false
    have gn := gone_6 0 0 0 0 0 0 (a) false false false false false false false 9 (by decide) false L
    have ls := list_6 0 0 0 0 0 0 (a) false false false false false false true e g3
    have n2 := next_6 0 0 0 0 0 0 (e) false false false false false false false (L.length : Int) (by omega) false L (by omega)
    rw [someL_all (L.length : Int) 6 e L [] (by simp), List.nil_append] at n2
    have rs := rest_eq 6 e false L (by omega)
    have hall : ∀ p ∈ restL 6 e L, e < p.1 ∧ p.2 = 6 := fun p hp => by
      have := (List.mem_filter.1 hp).2
      simp at this
      exact ⟨this.2, this.1⟩
    have hrl : (restL 6 e L).length ≤ L.length := List.length_filter_le _ _
    generalize restL 6 e L = R at n2 rs hall hrl
    generalize lastV R e = a' at n2
    have hloop := loop9_6 (b := bodyAt Try.f9 16) rfl e (R.map fun p => mkCh p.1 p.2).isEmpty L R (by omega) hall R.length 0 (by omega)
    simp only [bodyAt, bodyOf, loop_seq, loop_cond, loop_block, loop_loop, loop_region, loop_skip, loop_ret, loop_exit, orE_some, orE_none, Code.first, Option.getD_some, Nat.reduceEqDiff, ↓reduceIte, Try.f9] at hloop
    simp only [Int.cast_ofNat_Int] at hloop
    simp (maxSteps := 1000000) only [v9, ty9, call9, nw9, kp9, lp9, calls9, news9, keep9, loops9, Try.f9, wworks, wnew_0, hlog, hw3, ha1, ha2, ha3, n1, c1, c2, gn, ls, n2, rs, hloop, ty_3,ty_4,ty_9,ty_22,ty_24,ty_27,ty_29,ty_36,ty_38,ty_39,ty_47,ty_49,ty_53,ty_55,ty_56,ty_57,ty_58,ty_59,ty_60,ty_61,ty_63,ty_64,ty_66,ty_68,ty_70,ty_72,ty_74,ty_76,ty_78,ty_81,ty_84,ty_86,ty_89,ty_90,ty_92,ty_95,ty_102,ty_104,ty_105,ty_109,ty_111,ty_115,ty_132,ty_134,ty_136,ty_138,ty_140,ty_142,ty_144, ru0, ru1, ru2, ru3, ru4, ru5, ru6, fnSpec, bodyOf, resultsOf, Option.getD_some, callFn, ev, evO, Tm.get, Tm.put, clean, keepOf, loopsOf, newsOf, callOf, ofValue, argsT, guardOf, oneOf, V.cast, head, promote, Tm.refs, Code.first, AObj.ren, AObj.live, back, callW, needs, binV, intOp, intCmp, eqOp, nilFor, nilOf, unV, convV, extractV, indexV, idxA, idxD, fldA, fldV, ldV, stV, nilV, fnV, lenOf, sliceOf, maxV, boolOf, intOf, Env.fields, Env.arr, Env.elem, TD.isAgg, pieceD, pieceV, mkAgg, allD, putCells, buildV, fillV, buildSliceV, sliceV, sliceSl, sliceStr, optInt, asD, asDs, appendV, Option.map_some, Option.map_none, Option.bind_some, Option.bind_none, Option.some.injEq, List.map_cons, List.map_nil, List.length_cons, List.length_nil, List.getElem?_cons_zero, List.getElem?_cons_succ, List.getElem?_nil, List.getElem?_toArray, List.drop_succ_cons, List.drop_zero, List.take_succ_cons, List.take_zero, List.append_nil, List.nil_append, List.cons_append, List.set_cons_zero, List.set_cons_succ, List.head?_cons, List.isEmpty_nil, List.isEmpty_cons, List.all_nil, List.all_cons, List.take_nil, List.drop_nil, Nat.reduceAdd, Nat.reduceSub, Nat.reduceEqDiff, Nat.reduceLeDiff, Nat.reduceLT, Nat.reduceMul, Nat.reduceBEq, ↓reduceIte, reduceCtorEq, Bool.false_eq_true, Bool.not_true, Bool.not_false, Bool.and_true, Bool.true_and, Bool.and_false, Bool.false_and, Bool.and_self, decide_true, decide_false, decide_eq_true_eq, decide_eq_false_iff_not, Int.not_lt, Int.not_le, not_true_eq_false, not_false_eq_true, and_self, and_true, true_and, Int.reduceLT, Int.reduceLE, Int.reduceGT, Int.reduceGE, Int.reduceBEq, Int.reduceBNe, Int.reduceEq, Int.reduceNe, Int.reduceAdd, Int.reduceSub, Int.reduceMul, Int.reduceNeg, Int.reduceToNat, ge_iff_le, gt_iff_lt, Bool.not_eq_true', ByteArray.mk.injEq, Array.mk.injEq, List.cons.injEq, and_false, false_and, decide_not, Bool.not_eq_eq_eq_not, Option.getD_none, Int.cast_ofNat_Int, bne_self_eq_false, beq_self_eq_true, Int.toNat_natCast, List.getElem?_map, List.length_map, kFin, kGc, reached, kIds, nodupB, posOf, AObj.unren, List.range_zero, List.range_succ, List.filter_cons, List.filter_nil, List.contains_cons, List.contains_nil, Bool.or_false, Bool.false_or, Bool.or_self, Nat.not_lt_zero, footR, totalMax, needsMax, padS, List.replicate, List.replicate_zero, List.replicate_succ, checkD, Rec.idle, apartRec, disjB, keysOf, direct, List.range', Array.any_toList, List.any_toArray, List.any_cons, List.any_nil, Nat.add_zero, Nat.zero_add]
end Go.Vm.Try1
