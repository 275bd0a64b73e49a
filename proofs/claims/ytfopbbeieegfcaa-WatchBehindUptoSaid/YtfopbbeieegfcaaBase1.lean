/-
  A part of the proof: an abstract run of the program, shown to be what the model does, and what it comes to.
-/
import Derived.Test.YtfopbbeieegfcaaVmRu
import Derived.Test.YtfopbbeieegfcaaTry1
set_option linter.unusedSectionVars false
set_option linter.unnecessarySimpa false
set_option maxRecDepth 100000
set_option linter.unusedVariables false
set_option linter.unusedSimpArgs false
namespace Go.Vm.Try1
open Go Go.Vm Go.Proofs

theorem among_eq (n m : Int) (h1 : 0 < m) (h2 : m ≤ 9223372036854775807) : v16 [.d (.int .i64 n), .d (.int .i64 m)] [] = some (.d (.int .i64 (n % 18446744073709551616 % m)), []) := by
  have hm : IntKind.u64.wrap m = m := wrap_u64 (by omega) (by omega)
  have hn : IntKind.u64.wrap n = n % 18446744073709551616 := by
    simp only [IntKind.wrap, IntKind.bits, IntKind.signed]
    simp
  have h0 : m ≠ 0 := by omega
  have hr : (n % 18446744073709551616).tmod m = n % 18446744073709551616 % m := Int.tmod_eq_emod_of_nonneg (by omega)
  have hlt := Int.emod_lt_of_pos (n % 18446744073709551616) h1
  have hge := Int.emod_nonneg (n % 18446744073709551616) h0
  have hw : IntKind.i64.wrap (n % 18446744073709551616 % m) = n % 18446744073709551616 % m := wrap_i64 (by omega) (by omega)
  simp only [v16, ty16, call16, nw16, kp16, lp16, calls16, news16, keep16, loops16, Try.f16, hm, hn, h0, hr, hw, ty_3,ty_4,ty_9,ty_22,ty_24,ty_27,ty_29,ty_36,ty_38,ty_39,ty_47,ty_49,ty_53,ty_55,ty_56,ty_57,ty_58,ty_59,ty_60,ty_61,ty_63,ty_64,ty_66,ty_68,ty_70,ty_72,ty_74,ty_76,ty_78,ty_81,ty_84,ty_86,ty_89,ty_90,ty_92,ty_95,ty_102,ty_104,ty_105,ty_109,ty_111,ty_115,ty_132,ty_134,ty_136,ty_138,ty_140,ty_142,ty_144, ru0, ru1, ru2, ru3, ru4, ru5, ru6, fnSpec, bodyOf, resultsOf, Option.getD_some, callFn, ev, evO, Tm.get, Tm.put, clean, keepOf, loopsOf, newsOf, callOf, ofValue, argsT, guardOf, oneOf, V.cast, head, promote, Tm.refs, Code.first, AObj.ren, AObj.live, back, callW, needs, binV, intOp, intCmp, eqOp, nilFor, nilOf, unV, convV, extractV, indexV, idxA, idxD, fldA, fldV, ldV, stV, nilV, fnV, lenOf, sliceOf, maxV, boolOf, intOf, Env.fields, Env.arr, Env.elem, TD.isAgg, pieceD, pieceV, mkAgg, allD, putCells, buildV, fillV, buildSliceV, sliceV, sliceSl, sliceStr, optInt, asD, asDs, appendV, Option.map_some, Option.map_none, Option.bind_some, Option.bind_none, Option.some.injEq, List.map_cons, List.map_nil, List.length_cons, List.length_nil, List.getElem?_cons_zero, List.getElem?_cons_succ, List.getElem?_nil, List.getElem?_toArray, List.drop_succ_cons, List.drop_zero, List.take_succ_cons, List.take_zero, List.append_nil, List.nil_append, List.cons_append, List.set_cons_zero, List.set_cons_succ, List.head?_cons, List.isEmpty_nil, List.isEmpty_cons, List.all_nil, List.all_cons, List.take_nil, List.drop_nil, Nat.reduceAdd, Nat.reduceSub, Nat.reduceEqDiff, Nat.reduceLeDiff, Nat.reduceLT, Nat.reduceMul, Nat.reduceBEq, ↓reduceIte, reduceCtorEq, Bool.false_eq_true, Bool.not_true, Bool.not_false, Bool.and_true, Bool.true_and, Bool.and_false, Bool.false_and, Bool.and_self, decide_true, decide_false, decide_eq_true_eq, decide_eq_false_iff_not, Int.not_lt, Int.not_le, not_true_eq_false, not_false_eq_true, and_self, and_true, true_and, Int.reduceLT, Int.reduceLE, Int.reduceGT, Int.reduceGE, Int.reduceBEq, Int.reduceBNe, Int.reduceEq, Int.reduceNe, Int.reduceAdd, Int.reduceSub, Int.reduceMul, Int.reduceNeg, Int.reduceToNat, ge_iff_le, gt_iff_lt, Bool.not_eq_true', ByteArray.mk.injEq, Array.mk.injEq, List.cons.injEq, and_false, false_and, decide_not, Bool.not_eq_eq_eq_not, Option.getD_none, Int.cast_ofNat_Int, bne_self_eq_false, beq_self_eq_true, Int.toNat_natCast, List.getElem?_map, List.length_map, kFin, kGc, reached, kIds, nodupB, posOf, AObj.unren, List.range_zero, List.range_succ, List.filter_cons, List.filter_nil, List.contains_cons, List.contains_nil, Bool.or_false, Bool.false_or, Bool.or_self, Nat.not_lt_zero, footR, totalMax, needsMax, padS, List.replicate, List.replicate_zero, List.replicate_succ, checkD, Rec.idle, apartRec, disjB, keysOf, direct, List.range', Array.any_toList, List.any_toArray, List.any_cons, List.any_nil, Nat.add_zero, Nat.zero_add]
theorem ints_of (k t : Nat) (i : TI) (hd : ty t = some i) (hi : i.desc = .int .i64) : ∀ (xs : List D), (∀ x ∈ xs, ∃ cs, shape ty (k + 1) t cs ∧ x = elemT ty t cs) → ∃ ns : List Int, xs = ns.map (.int .i64) ∧ ∀ n ∈ ns, (Lit.int .i64 n).wf = true
  | [], _ => ⟨[], rfl, fun n h => by cases h⟩
  | x :: r, h => by
    obtain ⟨ns, hn, hw⟩ := ints_of k t i hd hi r fun y hy => h y (List.mem_cons_of_mem _ hy)
    obtain ⟨cs, hc, hx⟩ := h x (by simp)
    obtain ⟨n, rfl, hnw⟩ := shape_int hd hi hc
    rw [elemT_one hd (by rw [hi]; rfl)] at hx
    refine ⟨n :: ns, by simp [hn, hx], fun m hm => ?_⟩
    rcases List.mem_cons.1 hm with rfl | hm
    · exact hnw
    · exact hw m hm

end Go.Vm.Try1
