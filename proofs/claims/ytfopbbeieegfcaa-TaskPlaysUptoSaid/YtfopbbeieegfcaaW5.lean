/-
  A part of the proof: an abstract run of the program, shown to be what the model does, and what it comes to.
-/
import Derived.Test.YtfopbbeieegfcaaW4
set_option linter.unusedSectionVars false
set_option linter.unnecessarySimpa false
set_option maxRecDepth 100000
set_option linter.unusedVariables false
set_option linter.unusedSimpArgs false
set_option linter.defProp false
namespace Go.Wm.Try1
open Go Go.Wm Go.Proofs
theorem Log.d_append (a b : Log) : Log.d (a ++ b) = a.d ++ b.d := by simp [Log.d]
theorem Log.d_take (a : Log) (n : Nat) : (Log.d a).take n = Log.d (a.take n) := by simp [Log.d]
theorem Log.d_all (a : Log) : (Log.d a).all (fun x => x.cells.length == 42) = true := by
  simp only [Log.d, List.all_map, List.all_eq_true]
  intro p _
  rfl
set_option maxHeartbeats 4000000 in
theorem order_loop {b : Code} (hb : b = bodyAt Try.f3 10) (log : Log) (hu : Up log) (hl : log.length ≤ 1073741824) (k : Nat) (h1 : 1 ≤ k) (h6 : k ≤ 6) (ns : List Int) (hns : ns.length ≤ 1073741824) :
    ∀ (j i : Nat) (w : List (Int × Bool)) (a : Int) (got : Log), i + j = ns.length → w.length = 7 → w[k]? = some (a, false) → got ++ comeL k a log = comeL k 0 log →
    ∃ (w' : List (Int × Bool)) (a' : Int) (got' : Log), w'.length = 7 ∧ w'[k]? = some (a', false) ∧ got' ++ comeL k a' log = comeL k 0 log ∧
    evLoop E3 0 b [(1, .d (.int .i64 (k))), (2, .d (.sl (ns.map (.int .i64)))), (7, .d (.sl (Log.d log))), (8, .ptr 0 0), (9, .own 1 (got.d)), (10, .d (.int .i64 ((i : Int))))] [.box ((wds (w)).map V.d), .tok 78 got.length 42] = some ([(1, .d (.int .i64 (k))), (2, .d (.sl (ns.map (.int .i64)))), (7, .d (.sl (Log.d log))), (8, .ptr 0 0), (9, .own 1 (Log.d got')), (10, .d (.int .i64 (ns.length))), (31, .d (.bool false))], [.box ((wds (w')).map V.d), .tok 78 got'.length 42], .exit 0) := by
  simp only [bodyAt, bodyOf, loop_seq, loop_cond, loop_block, loop_loop, loop_region, loop_skip, loop_ret, loop_exit, orE_some, orE_none, Code.first, Option.getD_some, Nat.reduceEqDiff, ↓reduceIte, Try.f3] at hb
  subst hb
  intro j
  induction j with
  | zero =>
    intro i w a got hk h7 hw hg
    have hi : (i : Int) = (ns.length : Int) := by omega
    refine ⟨w, a, got, h7, hw, hg, ?_⟩
    rw [c_round]
    simp only [u3, Try.f3, hi, Int.lt_irrefl, ruB, ruP, ru0, ru1, ru2, ru3, ru4, ru5, ru6, ru7, ru8, ru9, ru10, tys, fnSpec, bodyOf, resultsOf, Option.getD_some, ev, evO, Tm.get, Tm.put, clean, keepOf, loopsOf, newsOf, modeOf, boxesOf, callOf, ofValue, argsT, guardOf, guardV, oneOf, head, promote, Tm.refs, Code.first, AObj.live, back, callW, needs, binV, intOp, intCmp, shiftOp, isShift, eqOp, eqT, eqFs, scalarOf, asD, asDs, nilFor, nilOf, unV, convV, convB, bytesOf, extractV, indexV, idxA, idxD, fldA, fldV, ldV, stV, nilV, fnV, isConst, lenOf, countOf, sliceOf, maxV, boolOf, intOf, Env.fields, Env.arr, Env.elem, TD.isAgg, pieceD, pieceV, mkAgg, allD, putCells, D.put, buildV, fillV, arrPlaces, buildSliceV, sliceV, bounds, sliceStr, optInt, appendV, newList, makeSliceV, zeroD, zeroV, clearV, V.scal, V.scal1, D.scal, D.scal1, lent, kBorA, Option.map_some, Option.map_none, Option.bind_some, Option.bind_none, Option.some.injEq, List.map_cons, List.map_nil, List.length_cons, List.length_nil, List.getElem?_cons_zero, List.getElem?_cons_succ, List.getElem?_nil, List.getElem?_toArray, List.drop_succ_cons, List.drop_zero, List.take_succ_cons, List.take_zero, List.append_nil, List.nil_append, List.cons_append, List.set_cons_zero, List.set_cons_succ, List.head?_cons, List.headD_cons, List.isEmpty_nil, List.isEmpty_cons, List.all_nil, List.all_cons, List.take_nil, List.drop_nil, List.toList_toArray, Nat.reduceAdd, Nat.reduceSub, Nat.reduceEqDiff, Nat.reduceLeDiff, Nat.reduceLT, Nat.reduceMul, Nat.reduceBEq, ↓reduceIte, reduceCtorEq, Bool.false_eq_true, Bool.not_true, Bool.not_false, Bool.and_true, Bool.true_and, Bool.and_false, Bool.false_and, Bool.and_self, Bool.true_or, Bool.or_true, decide_true, decide_false, decide_eq_true_eq, decide_eq_false_iff_not, Int.not_lt, Int.not_le, not_true_eq_false, not_false_eq_true, and_self, and_true, true_and, Int.reduceLT, Int.reduceLE, Int.reduceGT, Int.reduceGE, Int.reduceBEq, Int.reduceBNe, Int.reduceEq, Int.reduceNe, Int.reduceAdd, Int.reduceSub, Int.reduceMul, Int.reduceNeg, Int.reduceToNat, ge_iff_le, gt_iff_lt, Bool.not_eq_true', List.cons.injEq, and_false, false_and, decide_not, Bool.not_eq_eq_eq_not, Option.getD_none, Int.cast_ofNat_Int, bne_self_eq_false, beq_self_eq_true, Int.toNat_natCast, List.getElem?_map, List.length_map, kFin, kGc, reached, kIds, nodupB, posOf, List.range_zero, List.range_succ, List.filter_cons, List.filter_nil, List.contains_cons, List.contains_nil, Bool.or_false, Bool.false_or, Bool.or_self, Nat.not_lt_zero, footR, footC, argsC, funC, totalMax, needsMax, padS, List.replicate, List.replicate_zero, List.replicate_succ, checkD, Rec.idle, apartRec, disjB, keysOf, direct, List.range', Array.any_toList, List.any_toArray, List.any_cons, List.any_nil, Nat.add_zero, Nat.zero_add, clone_row, clone_data]
  | succ j ih =>
    intro i w a got hk h7 hw hg
    have hi : (i : Int) < (ns.length : Int) := by omega
    have h0 : 0 ≤ (i : Int) := by omega
    have hlt : i < ns.length := by omega
    have hci : ns[i]? = some ns[i] := by simp [hlt]
    generalize ns[i] = c at hci
    have hwr : IntKind.i64.wrap ((i : Int) + 1) = ((i + 1 : Nat) : Int) := by rw [wrap_i64 (by omega) (by omega)]; omega
    have ham := am_eq c 5 (by decide) (by decide)
    have hnn := am_nn c 5 (by decide)
    have hnx := next_eq w h7 k h1 h6 a hw (am c 5) hnn log hl
    have hcn := come_next hu k (am c 5) a
    have hnl := nextL_n k (am c 5) a log hnn
    have hsp : nextL k (am c 5) a log ++ comeL k (lastV (nextL k (am c 5) a log) a) log = comeL k a log := by
      rw [hcn, nextL, List.take_append_drop]
    have hkw : k < w.length := by omega
    have hlen : got.length + (nextL k (am c 5) a log).length ≤ 1073741824 := by
      have := congrArg List.length hg
      have h2 := congrArg List.length hsp
      have h3 := comeL_length k 0 log
      simp only [List.length_append] at this h2
      omega
    generalize nextL k (am c 5) a log = res at hnx hcn hnl hsp hlen
    obtain ⟨w', a', got', q1, q2, q3, q4⟩ := ih (i + 1) (w.set k (lastV res a, false)) (lastV res a) (got ++ res) (by omega) (by simp [h7]) (by simp [hkw]) (by rw [List.append_assoc, hsp, hg])
    refine ⟨w', a', got', q1, q2, q3, ?_⟩
    rw [← q4, Log.d_append, List.length_append, c_round]
    have hlr := Log.len res
    have hlg := Log.len got
    have hal := Log.d_all res
    have hol : got.length + res.length ≤ 2147483648 := by omega
    have hgt : ¬ am c 5 < (res.length : Int) := by omega
    simp only [u3, Try.f3, hi, h0, hci, hwr, ham, hnx, hlr, hlg, hol, hal, hgt, ruB, ruP, ru0, ru1, ru2, ru3, ru4, ru5, ru6, ru7, ru8, ru9, ru10, tys, fnSpec, bodyOf, resultsOf, Option.getD_some, ev, evO, Tm.get, Tm.put, clean, keepOf, loopsOf, newsOf, modeOf, boxesOf, callOf, ofValue, argsT, guardOf, guardV, oneOf, head, promote, Tm.refs, Code.first, AObj.live, back, callW, needs, binV, intOp, intCmp, shiftOp, isShift, eqOp, eqT, eqFs, scalarOf, asD, asDs, nilFor, nilOf, unV, convV, convB, bytesOf, extractV, indexV, idxA, idxD, fldA, fldV, ldV, stV, nilV, fnV, isConst, lenOf, countOf, sliceOf, maxV, boolOf, intOf, Env.fields, Env.arr, Env.elem, TD.isAgg, pieceD, pieceV, mkAgg, allD, putCells, D.put, buildV, fillV, arrPlaces, buildSliceV, sliceV, bounds, sliceStr, optInt, appendV, newList, makeSliceV, zeroD, zeroV, clearV, V.scal, V.scal1, D.scal, D.scal1, lent, kBorA, Option.map_some, Option.map_none, Option.bind_some, Option.bind_none, Option.some.injEq, List.map_cons, List.map_nil, List.length_cons, List.length_nil, List.getElem?_cons_zero, List.getElem?_cons_succ, List.getElem?_nil, List.getElem?_toArray, List.drop_succ_cons, List.drop_zero, List.take_succ_cons, List.take_zero, List.append_nil, List.nil_append, List.cons_append, List.set_cons_zero, List.set_cons_succ, List.head?_cons, List.headD_cons, List.isEmpty_nil, List.isEmpty_cons, List.all_nil, List.all_cons, List.take_nil, List.drop_nil, List.toList_toArray, Nat.reduceAdd, Nat.reduceSub, Nat.reduceEqDiff, Nat.reduceLeDiff, Nat.reduceLT, Nat.reduceMul, Nat.reduceBEq, ↓reduceIte, reduceCtorEq, Bool.false_eq_true, Bool.not_true, Bool.not_false, Bool.and_true, Bool.true_and, Bool.and_false, Bool.false_and, Bool.and_self, Bool.true_or, Bool.or_true, decide_true, decide_false, decide_eq_true_eq, decide_eq_false_iff_not, Int.not_lt, Int.not_le, not_true_eq_false, not_false_eq_true, and_self, and_true, true_and, Int.reduceLT, Int.reduceLE, Int.reduceGT, Int.reduceGE, Int.reduceBEq, Int.reduceBNe, Int.reduceEq, Int.reduceNe, Int.reduceAdd, Int.reduceSub, Int.reduceMul, Int.reduceNeg, Int.reduceToNat, ge_iff_le, gt_iff_lt, Bool.not_eq_true', List.cons.injEq, and_false, false_and, decide_not, Bool.not_eq_eq_eq_not, Option.getD_none, Int.cast_ofNat_Int, bne_self_eq_false, beq_self_eq_true, Int.toNat_natCast, List.getElem?_map, List.length_map, kFin, kGc, reached, kIds, nodupB, posOf, List.range_zero, List.range_succ, List.filter_cons, List.filter_nil, List.contains_cons, List.contains_nil, Bool.or_false, Bool.false_or, Bool.or_self, Nat.not_lt_zero, footR, footC, argsC, funC, totalMax, needsMax, padS, List.replicate, List.replicate_zero, List.replicate_succ, checkD, Rec.idle, apartRec, disjB, keysOf, direct, List.range', Array.any_toList, List.any_toArray, List.any_cons, List.any_nil, Nat.add_zero, Nat.zero_add, clone_row, clone_data]
set_option maxHeartbeats 4000000 in
theorem watchOrder_eq (ks : List Int) (hk : ks.length ≤ 1073741824) (c : Int) (ns : List Int) (hn : ns.length ≤ 1073741824) :
    v3 [.d (.sl (ks.map (.int .i64))), .d (.int .i64 (c)), .d (.sl (ns.map (.int .i64)))] [] = some (.d (.bool true), []) := by
  have hlog := logged_eq ks hk
  have hu := logL_up 0 ks
  have hl : (logL 0 ks).length ≤ 1073741824 := by rw [logL_length]; exact hk
  generalize logL 0 ks = log at hlog hu hl
  have ham := am_eq c 6 (by decide) (by decide)
  have hnn := am_nn c 6 (by decide)
  have hlt := am_lt c 6 (by decide)
  obtain ⟨k, hkk⟩ : ∃ k : Nat, (k : Int) = 1 + am c 6 := ⟨(1 + am c 6).toNat, by omega⟩
  have hw : IntKind.i64.wrap (1 + am c 6) = k := by rw [wrap_i64 (by omega) (by omega), hkk]
  have h1 : 1 ≤ k := by omega
  have h6 : k ≤ 6 := by omega
  have hf : (fresh 0)[k]? = some (0, false) := by
    have : k = 1 ∨ k = 2 ∨ k = 3 ∨ k = 4 ∨ k = 5 ∨ k = 6 := by omega
    rcases this with rfl | rfl | rfl | rfl | rfl | rfl <;> rfl
  obtain ⟨w', a', got, q1, q2, q3, q4⟩ := order_loop (b := bodyAt Try.f3 10) rfl log hu hl k h1 h6 ns hn ns.length 0 (fresh 0) 0 [] (by omega) rfl hf (by simp)
  simp only [bodyAt, bodyOf, loop_seq, loop_cond, loop_block, loop_loop, loop_region, loop_skip, loop_ret, loop_exit, orE_some, orE_none, Code.first, Option.getD_some, Nat.reduceEqDiff, ↓reduceIte, Try.f3] at q4
  have hd0 : Log.d [] = [] := rfl
  rw [hd0] at q4
  simp only [Int.cast_ofNat_Int, List.length_nil] at q4
  have hnew := new_eq 0
  rw [show max (0 : Int) 0 = 0 from rfl] at hnew
  have hx := next_eq (fresh 0) rfl k h1 h6 0 hf log.length (by omega) log hl
  have hle := comeL_length k 0 log
  have hall : nextL k log.length 0 log = comeL k 0 log := by rw [nextL, List.take_of_length_le (by omega)]
  rw [hall] at hx
  have hbh := behind_eq w' q1 k h1 h6 _ q2 log hl
  have hlog2 := Log.len log
  have hlg := Log.len got
  have hla := Log.len (comeL k 0 log)
  have hlens := congrArg List.length q3
  simp only [List.length_append] at hlens
  have hsum : IntKind.i64.wrap ((got.length : Int) + (comeL k a' log).length) = (comeL k 0 log).length := by rw [wrap_i64 (by omega) (by omega)]; omega
  have htk : ((comeL k 0 log)).take got.length = got := by rw [← q3]; simp
  have hdt := Log.d_take (comeL k 0 log) got.length
  rw [htk] at hdt
  have hgl : (got.length : Int) ≤ (comeL k 0 log).length := by omega
  have hg0 : (0 : Int) ≤ got.length := by omega
  have hsame := same_eq got got (by omega)
  simp only [decide_true] at hsame
  have hw7 := works13_eq
  simp only [u3, Try.f3, hw7, hlog, ham, hw, hnew, q4, hx, hbh, hlog2, hlg, hla, hsum, hdt, hgl, hg0, hsame, Log.d_all, ruB, ruP, ru0, ru1, ru2, ru3, ru4, ru5, ru6, ru7, ru8, ru9, ru10, tys, fnSpec, bodyOf, resultsOf, Option.getD_some, ev, evO, Tm.get, Tm.put, clean, keepOf, loopsOf, newsOf, modeOf, boxesOf, callOf, ofValue, argsT, guardOf, guardV, oneOf, head, promote, Tm.refs, Code.first, AObj.live, back, callW, needs, binV, intOp, intCmp, shiftOp, isShift, eqOp, eqT, eqFs, scalarOf, asD, asDs, nilFor, nilOf, unV, convV, convB, bytesOf, extractV, indexV, idxA, idxD, fldA, fldV, ldV, stV, nilV, fnV, isConst, lenOf, countOf, sliceOf, maxV, boolOf, intOf, Env.fields, Env.arr, Env.elem, TD.isAgg, pieceD, pieceV, mkAgg, allD, putCells, D.put, buildV, fillV, arrPlaces, buildSliceV, sliceV, bounds, sliceStr, optInt, appendV, newList, makeSliceV, zeroD, zeroV, clearV, V.scal, V.scal1, D.scal, D.scal1, lent, kBorA, Option.map_some, Option.map_none, Option.bind_some, Option.bind_none, Option.some.injEq, List.map_cons, List.map_nil, List.length_cons, List.length_nil, List.getElem?_cons_zero, List.getElem?_cons_succ, List.getElem?_nil, List.getElem?_toArray, List.drop_succ_cons, List.drop_zero, List.take_succ_cons, List.take_zero, List.append_nil, List.nil_append, List.cons_append, List.set_cons_zero, List.set_cons_succ, List.head?_cons, List.headD_cons, List.isEmpty_nil, List.isEmpty_cons, List.all_nil, List.all_cons, List.take_nil, List.drop_nil, List.toList_toArray, Nat.reduceAdd, Nat.reduceSub, Nat.reduceEqDiff, Nat.reduceLeDiff, Nat.reduceLT, Nat.reduceMul, Nat.reduceBEq, ↓reduceIte, reduceCtorEq, Bool.false_eq_true, Bool.not_true, Bool.not_false, Bool.and_true, Bool.true_and, Bool.and_false, Bool.false_and, Bool.and_self, Bool.true_or, Bool.or_true, decide_true, decide_false, decide_eq_true_eq, decide_eq_false_iff_not, Int.not_lt, Int.not_le, not_true_eq_false, not_false_eq_true, and_self, and_true, true_and, Int.reduceLT, Int.reduceLE, Int.reduceGT, Int.reduceGE, Int.reduceBEq, Int.reduceBNe, Int.reduceEq, Int.reduceNe, Int.reduceAdd, Int.reduceSub, Int.reduceMul, Int.reduceNeg, Int.reduceToNat, ge_iff_le, gt_iff_lt, Bool.not_eq_true', List.cons.injEq, and_false, false_and, decide_not, Bool.not_eq_eq_eq_not, Option.getD_none, Int.cast_ofNat_Int, bne_self_eq_false, beq_self_eq_true, Int.toNat_natCast, List.getElem?_map, List.length_map, kFin, kGc, reached, kIds, nodupB, posOf, List.range_zero, List.range_succ, List.filter_cons, List.filter_nil, List.contains_cons, List.contains_nil, Bool.or_false, Bool.false_or, Bool.or_self, Nat.not_lt_zero, footR, footC, argsC, funC, totalMax, needsMax, padS, List.replicate, List.replicate_zero, List.replicate_succ, checkD, Rec.idle, apartRec, disjB, keysOf, direct, List.range', Array.any_toList, List.any_toArray, List.any_cons, List.any_nil, Nat.add_zero, Nat.zero_add, clone_row, clone_data]
end Go.Wm.Try1
