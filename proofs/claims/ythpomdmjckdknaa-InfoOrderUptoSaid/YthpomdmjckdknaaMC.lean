/-
  A part of the proof: an abstract run of the program, shown to be what the model does, and what it comes to.
-/
import Derived.Test.YthpomdmjckdknaaMB
set_option linter.unusedSectionVars false
set_option linter.unnecessarySimpa false
set_option maxRecDepth 100000
set_option linter.unusedVariables false
set_option linter.unusedSimpArgs false
set_option linter.defProp false
namespace Go.Wm.Try1
open Go Go.Wm Go.Proofs
theorem place_cons {α} (o : Ord α) (a : α) (r : List α) (x : α) : placeOf o (a :: r) x = if o.lt a x then placeOf o r x + 1 else 0 := by
  unfold placeOf
  rw [List.takeWhile_cons]
  split <;> simp
set_option maxHeartbeats 2000000 in
theorem sorted_inner {bd : Code} (hb : bd = bodyAt Try.f32 6) (l out : List Str) (hl : Small l) (hout : Small out) (i : Nat) (x : Str) (hx : l[i]? = some x) : ∀ (k j : Nat), j + k = out.length → placeOf ordS out x = j + placeOf ordS (out.drop j) x →
    evLoop E32 0 bd [(0, .d (.sl (l.map strD))), (3, .own 0 (out.map strD)), (4, .d (.int .i64 ((i : Int)))), (5, .d (.int .i64 ((j : Int))))] [.tok 9 out.length 1] = some ([(0, .d (.sl (l.map strD))), (3, .own 0 (out.map strD)), (4, .d (.int .i64 ((i : Int)))), (5, .d (.int .i64 ((placeOf ordS out x : Nat)))), (27, .d (.bool false))], [.tok 9 out.length 1], .exit 2) := by
  simp only [bodyAt, bodyOf, loop_seq, loop_cond, loop_block, loop_loop, loop_region, loop_skip, loop_ret, loop_exit, orE_some, orE_none, Code.first, Option.getD_some, Nat.reduceEqDiff, ↓reduceIte, Try.f32] at hb
  subst hb
  unfold Small at hl hout
  have hil : i < l.length := (List.getElem?_eq_some_iff.1 hx).1
  have hi : (i : Int) < (l.length : Int) := by omega
  have h0 : 0 ≤ (i : Int) := by omega
  intro k
  induction k with
  | zero =>
    intro j hk hp
    have hj : (j : Int) = (out.length : Int) := by omega
    have hd : out.drop j = [] := by rw [List.drop_eq_nil_iff]; omega
    have e : placeOf ordS out x = j := by rw [hp, hd]; rfl
    rw [c_round, e]
    simp only [u32, Try.f32, hj, Int.lt_irrefl, sm, tys, Nat.reduceAdd, Nat.reduceSub, Nat.reduceEqDiff, Nat.reduceLeDiff, Nat.reduceLT, Nat.reduceMul, Nat.reduceBEq, ↓reduceIte, reduceCtorEq, Int.reduceLT, Int.reduceLE, Int.reduceGT, Int.reduceGE, Int.reduceBEq, Int.reduceBNe, Int.reduceEq, Int.reduceNe, Int.reduceAdd, Int.reduceSub, Int.reduceMul, Int.reduceNeg, Int.reduceToNat]
  | succ k ih =>
    intro j hk hp
    have hj : (j : Int) < (out.length : Int) := by omega
    have hj0 : 0 ≤ (j : Int) := by omega
    have hlt : j < out.length := by omega
    have hcj : out[j]? = some out[j] := by simp [hlt]
    have hd : out.drop j = out[j] :: out.drop (j + 1) := List.drop_eq_getElem_cons hlt
    generalize out[j] = c at hcj hd
    have hw : IntKind.i64.wrap ((j : Int) + 1) = ((j + 1 : Nat) : Int) := by rw [wrap_i64 (by omega) (by omega)]; omega
    rw [hd, place_cons] at hp
    cases hlt2 : ordS.lt c x with
    | true =>
      rw [hlt2, if_pos rfl] at hp
      rw [← ih (j + 1) (by omega) (by omega), c_round]
      simp only [ordS] at hlt2
      simp only [u32, Try.f32, hi, h0, hj, hj0, hx, hcj, hw, strD, hlt2, sm, tys, Nat.reduceAdd, Nat.reduceSub, Nat.reduceEqDiff, Nat.reduceLeDiff, Nat.reduceLT, Nat.reduceMul, Nat.reduceBEq, ↓reduceIte, reduceCtorEq, Int.reduceLT, Int.reduceLE, Int.reduceGT, Int.reduceGE, Int.reduceBEq, Int.reduceBNe, Int.reduceEq, Int.reduceNe, Int.reduceAdd, Int.reduceSub, Int.reduceMul, Int.reduceNeg, Int.reduceToNat]
    | false =>
      rw [hlt2] at hp
      simp only [Bool.false_eq_true, if_false, Nat.add_zero] at hp
      rw [hp, c_round]
      simp only [ordS] at hlt2
      simp only [u32, Try.f32, hi, h0, hj, hj0, hx, hcj, strD, hlt2, sm, tys, Nat.reduceAdd, Nat.reduceSub, Nat.reduceEqDiff, Nat.reduceLeDiff, Nat.reduceLT, Nat.reduceMul, Nat.reduceBEq, ↓reduceIte, reduceCtorEq, Int.reduceLT, Int.reduceLE, Int.reduceGT, Int.reduceGE, Int.reduceBEq, Int.reduceBNe, Int.reduceEq, Int.reduceNe, Int.reduceAdd, Int.reduceSub, Int.reduceMul, Int.reduceNeg, Int.reduceToNat]
set_option maxHeartbeats 2000000 in
theorem rints_inner {bd : Code} (hb : bd = bodyAt Try.f33 6) (l out : List Int) (hl : Small l) (hout : Small out) (i : Nat) (x : Int) (hx : l[i]? = some x) : ∀ (k j : Nat), j + k = out.length → placeOf ordI out x = j + placeOf ordI (out.drop j) x →
    evLoop E33 0 bd [(0, .d (.sl (l.map intD))), (3, .own 0 (out.map intD)), (4, .d (.int .i64 ((i : Int)))), (5, .d (.int .i64 ((j : Int))))] [.tok 3 out.length 1] = some ([(0, .d (.sl (l.map intD))), (3, .own 0 (out.map intD)), (4, .d (.int .i64 ((i : Int)))), (5, .d (.int .i64 ((placeOf ordI out x : Nat)))), (27, .d (.bool false))], [.tok 3 out.length 1], .exit 2) := by
  simp only [bodyAt, bodyOf, loop_seq, loop_cond, loop_block, loop_loop, loop_region, loop_skip, loop_ret, loop_exit, orE_some, orE_none, Code.first, Option.getD_some, Nat.reduceEqDiff, ↓reduceIte, Try.f33] at hb
  subst hb
  unfold Small at hl hout
  have hil : i < l.length := (List.getElem?_eq_some_iff.1 hx).1
  have hi : (i : Int) < (l.length : Int) := by omega
  have h0 : 0 ≤ (i : Int) := by omega
  intro k
  induction k with
  | zero =>
    intro j hk hp
    have hj : (j : Int) = (out.length : Int) := by omega
    have hd : out.drop j = [] := by rw [List.drop_eq_nil_iff]; omega
    have e : placeOf ordI out x = j := by rw [hp, hd]; rfl
    rw [c_round, e]
    simp only [u33, Try.f33, hj, Int.lt_irrefl, sm, tys, Nat.reduceAdd, Nat.reduceSub, Nat.reduceEqDiff, Nat.reduceLeDiff, Nat.reduceLT, Nat.reduceMul, Nat.reduceBEq, ↓reduceIte, reduceCtorEq, Int.reduceLT, Int.reduceLE, Int.reduceGT, Int.reduceGE, Int.reduceBEq, Int.reduceBNe, Int.reduceEq, Int.reduceNe, Int.reduceAdd, Int.reduceSub, Int.reduceMul, Int.reduceNeg, Int.reduceToNat]
  | succ k ih =>
    intro j hk hp
    have hj : (j : Int) < (out.length : Int) := by omega
    have hj0 : 0 ≤ (j : Int) := by omega
    have hlt : j < out.length := by omega
    have hcj : out[j]? = some out[j] := by simp [hlt]
    have hd : out.drop j = out[j] :: out.drop (j + 1) := List.drop_eq_getElem_cons hlt
    generalize out[j] = c at hcj hd
    have hw : IntKind.i64.wrap ((j : Int) + 1) = ((j + 1 : Nat) : Int) := by rw [wrap_i64 (by omega) (by omega)]; omega
    rw [hd, place_cons] at hp
    cases hlt2 : ordI.lt c x with
    | true =>
      rw [hlt2, if_pos rfl] at hp
      rw [← ih (j + 1) (by omega) (by omega), c_round]
      simp only [ordI] at hlt2
      simp only [u33, Try.f33, hi, h0, hj, hj0, hx, hcj, hw, intD, hlt2, sm, tys, Nat.reduceAdd, Nat.reduceSub, Nat.reduceEqDiff, Nat.reduceLeDiff, Nat.reduceLT, Nat.reduceMul, Nat.reduceBEq, ↓reduceIte, reduceCtorEq, Int.reduceLT, Int.reduceLE, Int.reduceGT, Int.reduceGE, Int.reduceBEq, Int.reduceBNe, Int.reduceEq, Int.reduceNe, Int.reduceAdd, Int.reduceSub, Int.reduceMul, Int.reduceNeg, Int.reduceToNat]
    | false =>
      rw [hlt2] at hp
      simp only [Bool.false_eq_true, if_false, Nat.add_zero] at hp
      rw [hp, c_round]
      simp only [ordI] at hlt2
      simp only [u33, Try.f33, hi, h0, hj, hj0, hx, hcj, intD, hlt2, sm, tys, Nat.reduceAdd, Nat.reduceSub, Nat.reduceEqDiff, Nat.reduceLeDiff, Nat.reduceLT, Nat.reduceMul, Nat.reduceBEq, ↓reduceIte, reduceCtorEq, Int.reduceLT, Int.reduceLE, Int.reduceGT, Int.reduceGE, Int.reduceBEq, Int.reduceBNe, Int.reduceEq, Int.reduceNe, Int.reduceAdd, Int.reduceSub, Int.reduceMul, Int.reduceNeg, Int.reduceToNat]
end Go.Wm.Try1
namespace Go.Wm.Try1
open Go Go.Wm Go.Proofs
set_option maxHeartbeats 4000000 in
theorem rints_outer {bd : Code} (hb : bd = bodyAt Try.f33 3) (l : List Int) (hl : Small l) : ∀ (k i : Nat) (out : List Int), i + k = l.length → Rising ordI out → out.length + k ≤ 1073741824 →
    evLoop E33 0 bd [(0, .d (.sl (l.map intD))), (3, .own 0 (out.map intD)), (4, .d (.int .i64 ((i : Int))))] [.tok 3 out.length 1] = some ([(0, .d (.sl (l.map intD))), (3, .own 0 ((putsO ordI out (l.drop i)).map intD)), (4, .d (.int .i64 (l.length))), (10, .d (.bool false))], [.tok 3 (putsO ordI out (l.drop i)).length 1], .exit 0) := by
  have hin := fun (out : List Int) (hout : Small out) (i : Nat) (x : Int) (hx : l[i]? = some x) => rints_inner (bd := bodyAt Try.f33 6) rfl l out hl hout i x hx out.length 0 (by omega) (by simp)
  simp only [bodyAt, bodyOf, loop_seq, loop_cond, loop_block, loop_loop, loop_region, loop_skip, loop_ret, loop_exit, orE_some, orE_none, Code.first, Option.getD_some, Nat.reduceEqDiff, ↓reduceIte, Try.f33] at hb hin
  subst hb
  simp only [Int.cast_ofNat_Int] at hin
  unfold Small at hl
  intro k
  induction k with
  | zero =>
    intro i out hk hr ho
    have hi : (i : Int) = (l.length : Int) := by omega
    have hd : l.drop i = [] := by rw [List.drop_eq_nil_iff]; omega
    rw [c_round, hd]
    simp only [u33, Try.f33, hi, putsO, List.foldl_nil, Int.lt_irrefl, sm, tys, Nat.reduceAdd, Nat.reduceSub, Nat.reduceEqDiff, Nat.reduceLeDiff, Nat.reduceLT, Nat.reduceMul, Nat.reduceBEq, ↓reduceIte, reduceCtorEq, Int.reduceLT, Int.reduceLE, Int.reduceGT, Int.reduceGE, Int.reduceBEq, Int.reduceBNe, Int.reduceEq, Int.reduceNe, Int.reduceAdd, Int.reduceSub, Int.reduceMul, Int.reduceNeg, Int.reduceToNat]
  | succ k ih =>
    intro i out hk hr ho
    have hi : (i : Int) < (l.length : Int) := by omega
    have h0 : 0 ≤ (i : Int) := by omega
    have hlt : i < l.length := by omega
    have hci : l[i]? = some l[i] := by simp [hlt]
    have hd : l.drop i = l[i] :: l.drop (i + 1) := List.drop_eq_getElem_cons hlt
    generalize l[i] = x at hci hd
    have hw : IntKind.i64.wrap ((i : Int) + 1) = ((i + 1 : Nat) : Int) := by rw [wrap_i64 (by omega) (by omega)]; omega
    have hq := hin out (by unfold Small; omega) i x hci
    have hle := placeOf_le ordI out x
    have hpl := putO_le ordI out x
    have hih := ih (i + 1) (putO ordI out x) (by omega) (putO_rising ordI out x hr) (by omega)
    rw [hd]
    simp only [putsO, List.foldl_cons] at hih ⊢
    rw [← hih, c_round]
    unfold putO
    generalize placeOf ordI out x = j at *
    have hj0 : (0 : Int) ≤ (j : Int) := by omega
    have hjl : (j : Int) ≤ (out.length : Int) := by omega
    have e1 : List.take j (out.map intD) = (out.take j).map intD := by rw [List.map_take]
    have e2 : List.drop j (out.map intD) = (out.drop j).map intD := by rw [List.map_drop]
    have a1 := all_intD (out.take j)
    have a2 := all_intD (out.drop j)
    have a0 := all_intD out
    have l1 : (out.take j).length ≤ 2147483647 := by simp; omega
    have l1' : (out.take j).length ≤ 2147483648 := by omega
    have l6 : ((out.take j).map intD ++ [D.int .i64 x]).length ≤ 2147483648 := by simp; omega
    have ht := List.take_length (l := out.map intD)
    have hll : (out.length : Int) ≤ out.length := Int.le_refl _
    have l2 : ((out.take j).map intD ++ [D.int .i64 x]).length + ((out.drop j).map intD).length ≤ 2147483648 := by simp; omega
    have l3 : ((out.take j).map intD ++ [D.int .i64 x]).length + ((out.drop j).map intD).length = (out.take j ++ x :: out.drop j).length := by simp; omega
    have l4 : (out.take j).map intD ++ [D.int .i64 x] ++ (out.drop j).map intD = (out.take j ++ x :: out.drop j).map intD := by simp [intD]
    have l5 : (out.take j).length + 1 = ((out.take j).map intD ++ [D.int .i64 x]).length := by simp
    rw [List.length_map] at l2 l3 ht
    rw [l3] at l2
    by_cases hjl2 : j = out.length
    · have hjl3 : ¬ (j : Int) < (out.length : Int) := by omega
      have hjl4 : (j : Int) = (out.length : Int) := by omega
      have hcj : out[j]? = none := by simp; omega
      rw [hcj, if_neg (by simp)]
      rw [hjl4] at hq
      have e3 : List.take out.length (out.map intD) = (out.take j).map intD := by rw [hjl2, List.map_take]
      have e4 : List.drop out.length (out.map intD) = (out.drop j).map intD := by rw [hjl2, List.map_drop]
      have e5 : List.drop out.length ((out.take j).map intD) = (out.drop j).map intD := by
        have : out.drop j = [] := by rw [List.drop_eq_nil_iff]; omega
        rw [this, List.map_nil, List.drop_eq_nil_iff]
        simp
        omega
      have h00 : (0 : Int) ≤ (out.length : Int) := by omega
      simp only [u33, Try.f33, hi, h0, h00, hci, hw, hq, Int.lt_irrefl, hll, intD, e3, e4, e5, a0, a1, a2, l1, l1', l6, l2, l3, l4, l5, sm, tys, Nat.reduceAdd, Nat.reduceSub, Nat.reduceEqDiff, Nat.reduceLeDiff, Nat.reduceLT, Nat.reduceMul, Nat.reduceBEq, ↓reduceIte, reduceCtorEq, Int.reduceLT, Int.reduceLE, Int.reduceGT, Int.reduceGE, Int.reduceBEq, Int.reduceBNe, Int.reduceEq, Int.reduceNe, Int.reduceAdd, Int.reduceSub, Int.reduceMul, Int.reduceNeg, Int.reduceToNat]
    · have hjl3 : (j : Int) < (out.length : Int) := by omega
      have hjl4 : ¬ (j : Int) = (out.length : Int) := by omega
      have hcj : out[j]? = some out[j] := by simp
      rw [hcj]
      generalize out[j] = c at *
      by_cases e : c = x
      · rw [if_pos (by rw [e])]
        simp only [u33, Try.f33, hi, h0, hci, hw, hq, hjl3, hjl4, hj0, hcj, intD, e, sm, tys, Nat.reduceAdd, Nat.reduceSub, Nat.reduceEqDiff, Nat.reduceLeDiff, Nat.reduceLT, Nat.reduceMul, Nat.reduceBEq, ↓reduceIte, reduceCtorEq, Int.reduceLT, Int.reduceLE, Int.reduceGT, Int.reduceGE, Int.reduceBEq, Int.reduceBNe, Int.reduceEq, Int.reduceNe, Int.reduceAdd, Int.reduceSub, Int.reduceMul, Int.reduceNeg, Int.reduceToNat]
      · rw [if_neg (by simp [e])]
        simp only [u33, Try.f33, hi, h0, hci, hw, hq, hjl, hjl3, hjl4, hj0, hcj, hll, ht, intD, e, e1, e2, a0, a1, a2, l1, l1', l6, l2, l3, l4, l5, sm, tys, Nat.reduceAdd, Nat.reduceSub, Nat.reduceEqDiff, Nat.reduceLeDiff, Nat.reduceLT, Nat.reduceMul, Nat.reduceBEq, ↓reduceIte, reduceCtorEq, Int.reduceLT, Int.reduceLE, Int.reduceGT, Int.reduceGE, Int.reduceBEq, Int.reduceBNe, Int.reduceEq, Int.reduceNe, Int.reduceAdd, Int.reduceSub, Int.reduceMul, Int.reduceNeg, Int.reduceToNat]
set_option maxHeartbeats 4000000 in
theorem sorted_outer {bd : Code} (hb : bd = bodyAt Try.f32 3) (l : List Str) (hl : Small l) : ∀ (k i : Nat) (out : List Str), i + k = l.length → Rising ordS out → out.length + k ≤ 1073741824 →
    evLoop E32 0 bd [(0, .d (.sl (l.map strD))), (3, .own 0 (out.map strD)), (4, .d (.int .i64 ((i : Int))))] [.tok 9 out.length 1] = some ([(0, .d (.sl (l.map strD))), (3, .own 0 ((putsO ordS out (l.drop i)).map strD)), (4, .d (.int .i64 (l.length))), (10, .d (.bool false))], [.tok 9 (putsO ordS out (l.drop i)).length 1], .exit 0) := by
  have hin := fun (out : List Str) (hout : Small out) (i : Nat) (x : Str) (hx : l[i]? = some x) => sorted_inner (bd := bodyAt Try.f32 6) rfl l out hl hout i x hx out.length 0 (by omega) (by simp)
  simp only [bodyAt, bodyOf, loop_seq, loop_cond, loop_block, loop_loop, loop_region, loop_skip, loop_ret, loop_exit, orE_some, orE_none, Code.first, Option.getD_some, Nat.reduceEqDiff, ↓reduceIte, Try.f32] at hb hin
  subst hb
  simp only [Int.cast_ofNat_Int] at hin
  unfold Small at hl
  intro k
  induction k with
  | zero =>
    intro i out hk hr ho
    have hi : (i : Int) = (l.length : Int) := by omega
    have hd : l.drop i = [] := by rw [List.drop_eq_nil_iff]; omega
    rw [c_round, hd]
    simp only [u32, Try.f32, hi, putsO, List.foldl_nil, Int.lt_irrefl, sm, tys, Nat.reduceAdd, Nat.reduceSub, Nat.reduceEqDiff, Nat.reduceLeDiff, Nat.reduceLT, Nat.reduceMul, Nat.reduceBEq, ↓reduceIte, reduceCtorEq, Int.reduceLT, Int.reduceLE, Int.reduceGT, Int.reduceGE, Int.reduceBEq, Int.reduceBNe, Int.reduceEq, Int.reduceNe, Int.reduceAdd, Int.reduceSub, Int.reduceMul, Int.reduceNeg, Int.reduceToNat]
  | succ k ih =>
    intro i out hk hr ho
    have hi : (i : Int) < (l.length : Int) := by omega
    have h0 : 0 ≤ (i : Int) := by omega
    have hlt : i < l.length := by omega
    have hci : l[i]? = some l[i] := by simp [hlt]
    have hd : l.drop i = l[i] :: l.drop (i + 1) := List.drop_eq_getElem_cons hlt
    generalize l[i] = x at hci hd
    have hw : IntKind.i64.wrap ((i : Int) + 1) = ((i + 1 : Nat) : Int) := by rw [wrap_i64 (by omega) (by omega)]; omega
    have hq := hin out (by unfold Small; omega) i x hci
    have hle := placeOf_le ordS out x
    have hpl := putO_le ordS out x
    have hih := ih (i + 1) (putO ordS out x) (by omega) (putO_rising ordS out x hr) (by omega)
    rw [hd]
    simp only [putsO, List.foldl_cons] at hih ⊢
    rw [← hih, c_round]
    unfold putO
    generalize placeOf ordS out x = j at *
    have hj0 : (0 : Int) ≤ (j : Int) := by omega
    have hjl : (j : Int) ≤ (out.length : Int) := by omega
    have e1 : List.take j (out.map strD) = (out.take j).map strD := by rw [List.map_take]
    have e2 : List.drop j (out.map strD) = (out.drop j).map strD := by rw [List.map_drop]
    have a1 := all_strD (out.take j)
    have a2 := all_strD (out.drop j)
    have a0 := all_strD out
    have l1 : (out.take j).length ≤ 2147483647 := by simp; omega
    have l1' : (out.take j).length ≤ 2147483648 := by omega
    have l6 : ((out.take j).map strD ++ [D.str x]).length ≤ 2147483648 := by simp; omega
    have ht := List.take_length (l := out.map strD)
    have hll : (out.length : Int) ≤ out.length := Int.le_refl _
    have l2 : ((out.take j).map strD ++ [D.str x]).length + ((out.drop j).map strD).length ≤ 2147483648 := by simp; omega
    have l3 : ((out.take j).map strD ++ [D.str x]).length + ((out.drop j).map strD).length = (out.take j ++ x :: out.drop j).length := by simp; omega
    have l4 : (out.take j).map strD ++ [D.str x] ++ (out.drop j).map strD = (out.take j ++ x :: out.drop j).map strD := by simp [strD]
    have l5 : (out.take j).length + 1 = ((out.take j).map strD ++ [D.str x]).length := by simp
    rw [List.length_map] at l2 l3 ht
    rw [l3] at l2
    by_cases hjl2 : j = out.length
    · have hjl3 : ¬ (j : Int) < (out.length : Int) := by omega
      have hjl4 : (j : Int) = (out.length : Int) := by omega
      have hcj : out[j]? = none := by simp; omega
      rw [hcj, if_neg (by simp)]
      rw [hjl4] at hq
      have e3 : List.take out.length (out.map strD) = (out.take j).map strD := by rw [hjl2, List.map_take]
      have e4 : List.drop out.length (out.map strD) = (out.drop j).map strD := by rw [hjl2, List.map_drop]
      have e5 : List.drop out.length ((out.take j).map strD) = (out.drop j).map strD := by
        have : out.drop j = [] := by rw [List.drop_eq_nil_iff]; omega
        rw [this, List.map_nil, List.drop_eq_nil_iff]
        simp
        omega
      have h00 : (0 : Int) ≤ (out.length : Int) := by omega
      simp only [u32, Try.f32, hi, h0, h00, hci, hw, hq, Int.lt_irrefl, hll, strD, e3, e4, e5, a0, a1, a2, l1, l1', l6, l2, l3, l4, l5, sm, tys, Nat.reduceAdd, Nat.reduceSub, Nat.reduceEqDiff, Nat.reduceLeDiff, Nat.reduceLT, Nat.reduceMul, Nat.reduceBEq, ↓reduceIte, reduceCtorEq, Int.reduceLT, Int.reduceLE, Int.reduceGT, Int.reduceGE, Int.reduceBEq, Int.reduceBNe, Int.reduceEq, Int.reduceNe, Int.reduceAdd, Int.reduceSub, Int.reduceMul, Int.reduceNeg, Int.reduceToNat]
    · have hjl3 : (j : Int) < (out.length : Int) := by omega
      have hjl4 : ¬ (j : Int) = (out.length : Int) := by omega
      have hcj : out[j]? = some out[j] := by simp
      rw [hcj]
      generalize out[j] = c at *
      by_cases e : c = x
      · rw [if_pos (by rw [e])]
        simp only [u32, Try.f32, hi, h0, hci, hw, hq, hjl3, hjl4, hj0, hcj, strD, e, sm, tys, Nat.reduceAdd, Nat.reduceSub, Nat.reduceEqDiff, Nat.reduceLeDiff, Nat.reduceLT, Nat.reduceMul, Nat.reduceBEq, ↓reduceIte, reduceCtorEq, Int.reduceLT, Int.reduceLE, Int.reduceGT, Int.reduceGE, Int.reduceBEq, Int.reduceBNe, Int.reduceEq, Int.reduceNe, Int.reduceAdd, Int.reduceSub, Int.reduceMul, Int.reduceNeg, Int.reduceToNat]
      · rw [if_neg (by simp [e])]
        simp only [u32, Try.f32, hi, h0, hci, hw, hq, hjl, hjl3, hjl4, hj0, hcj, hll, ht, strD, e, e1, e2, a0, a1, a2, l1, l1', l6, l2, l3, l4, l5, sm, tys, Nat.reduceAdd, Nat.reduceSub, Nat.reduceEqDiff, Nat.reduceLeDiff, Nat.reduceLT, Nat.reduceMul, Nat.reduceBEq, ↓reduceIte, reduceCtorEq, Int.reduceLT, Int.reduceLE, Int.reduceGT, Int.reduceGE, Int.reduceBEq, Int.reduceBNe, Int.reduceEq, Int.reduceNe, Int.reduceAdd, Int.reduceSub, Int.reduceMul, Int.reduceNeg, Int.reduceToNat]
set_option maxHeartbeats 4000000 in
theorem rints_eq (l : List Int) (hl : Small l) : v33 [.d (.sl (l.map intD))] [] = some (.d (.sl ((putsO ordI [] l).map intD)), []) := by
  have hh := hl
  unfold Small at hh
  cases l with
  | nil =>
    have hloop : evLoop E33 0 (bodyAt Try.f33 3) [(0, .d (.sl [])), (3, .fsl []), (4, .d (.int .i64 (0)))] [] = some ([(0, .d (.sl [])), (3, .fsl []), (4, .d (.int .i64 (0))), (10, .d (.bool false))], [], .exit 0) := by
      simp only [bodyAt, bodyOf, loop_seq, loop_cond, loop_block, loop_loop, loop_region, loop_skip, loop_ret, loop_exit, orE_some, orE_none, Code.first, Option.getD_some, Nat.reduceEqDiff, ↓reduceIte, Try.f33]
      rw [c_round]
      simp only [u33, Try.f33, sm, tys, Nat.reduceAdd, Nat.reduceSub, Nat.reduceEqDiff, Nat.reduceLeDiff, Nat.reduceLT, Nat.reduceMul, Nat.reduceBEq, ↓reduceIte, reduceCtorEq, Int.reduceLT, Int.reduceLE, Int.reduceGT, Int.reduceGE, Int.reduceBEq, Int.reduceBNe, Int.reduceEq, Int.reduceNe, Int.reduceAdd, Int.reduceSub, Int.reduceMul, Int.reduceNeg, Int.reduceToNat]
    simp only [bodyAt, bodyOf, loop_seq, loop_cond, loop_block, loop_loop, loop_region, loop_skip, loop_ret, loop_exit, orE_some, orE_none, Code.first, Option.getD_some, Nat.reduceEqDiff, ↓reduceIte, Try.f33] at hloop
    simp only [u33, Try.f33, hloop, putsO, List.foldl_nil, sm, tys, Nat.reduceAdd, Nat.reduceSub, Nat.reduceEqDiff, Nat.reduceLeDiff, Nat.reduceLT, Nat.reduceMul, Nat.reduceBEq, ↓reduceIte, reduceCtorEq, Int.reduceLT, Int.reduceLE, Int.reduceGT, Int.reduceGE, Int.reduceBEq, Int.reduceBNe, Int.reduceEq, Int.reduceNe, Int.reduceAdd, Int.reduceSub, Int.reduceMul, Int.reduceNeg, Int.reduceToNat]
  | cons x r =>
    have hc : (0 : Int) < ((x :: r).length : Int) := by rw [List.length_cons]; omega
    have hin : evLoop E33 0 (bodyAt Try.f33 6) [(0, .d (.sl ((x :: r).map intD))), (3, .fsl []), (4, .d (.int .i64 (0))), (5, .d (.int .i64 (0)))] [] = some ([(0, .d (.sl ((x :: r).map intD))), (3, .fsl []), (4, .d (.int .i64 (0))), (5, .d (.int .i64 (0))), (27, .d (.bool false))], [], .exit 2) := by
      simp only [bodyAt, bodyOf, loop_seq, loop_cond, loop_block, loop_loop, loop_region, loop_skip, loop_ret, loop_exit, orE_some, orE_none, Code.first, Option.getD_some, Nat.reduceEqDiff, ↓reduceIte, Try.f33]
      rw [c_round]
      simp only [u33, Try.f33, sm, tys, Nat.reduceAdd, Nat.reduceSub, Nat.reduceEqDiff, Nat.reduceLeDiff, Nat.reduceLT, Nat.reduceMul, Nat.reduceBEq, ↓reduceIte, reduceCtorEq, Int.reduceLT, Int.reduceLE, Int.reduceGT, Int.reduceGE, Int.reduceBEq, Int.reduceBNe, Int.reduceEq, Int.reduceNe, Int.reduceAdd, Int.reduceSub, Int.reduceMul, Int.reduceNeg, Int.reduceToNat]
    have hout := rints_outer (bd := bodyAt Try.f33 3) rfl (x :: r) hl r.length 1 [x] (by simp; omega) (List.pairwise_singleton _ _) (by simp at hh ⊢; omega)
    have e : putsO ordI [] (x :: r) = putsO ordI [x] r := by unfold putsO; rw [List.foldl_cons]; rfl
    have hw : IntKind.i64.wrap ((0 : Int) + 1) = 1 := by rw [wrap_i64 (by omega) (by omega)]; rfl
    rw [e]
    simp only [bodyAt, bodyOf, loop_seq, loop_cond, loop_block, loop_loop, loop_region, loop_skip, loop_ret, loop_exit, orE_some, orE_none, Code.first, Option.getD_some, Nat.reduceEqDiff, ↓reduceIte, Try.f33] at hin hout
    simp only [Int.cast_ofNat_Int, List.map_cons, List.map_nil, List.length_nil, List.length_cons, List.drop_succ_cons, List.drop_zero, List.nil_append, intD] at hin hout hc
    generalize putsO ordI [x] r = z at *
    simp only [u33, Try.f33, sm, tys, Nat.reduceAdd, Nat.reduceSub, Nat.reduceEqDiff, Nat.reduceLeDiff, Nat.reduceLT, Nat.reduceMul, Nat.reduceBEq, ↓reduceIte, reduceCtorEq, Int.reduceLT, Int.reduceLE, Int.reduceGT, Int.reduceGE, Int.reduceBEq, Int.reduceBNe, Int.reduceEq, Int.reduceNe, Int.reduceAdd, Int.reduceSub, Int.reduceMul, Int.reduceNeg, Int.reduceToNat]
    rw [c_round]
    simp only [u33, Try.f33, hin, hc, hw, hout, intD, sm, tys, Nat.reduceAdd, Nat.reduceSub, Nat.reduceEqDiff, Nat.reduceLeDiff, Nat.reduceLT, Nat.reduceMul, Nat.reduceBEq, ↓reduceIte, reduceCtorEq, Int.reduceLT, Int.reduceLE, Int.reduceGT, Int.reduceGE, Int.reduceBEq, Int.reduceBNe, Int.reduceEq, Int.reduceNe, Int.reduceAdd, Int.reduceSub, Int.reduceMul, Int.reduceNeg, Int.reduceToNat]
set_option maxHeartbeats 4000000 in
theorem sorted_eq (l : List Str) (hl : Small l) : v32 [.d (.sl (l.map strD))] [] = some (.d (.sl ((putsO ordS [] l).map strD)), []) := by
  have hh := hl
  unfold Small at hh
  cases l with
  | nil =>
    have hloop : evLoop E32 0 (bodyAt Try.f32 3) [(0, .d (.sl [])), (3, .fsl []), (4, .d (.int .i64 (0)))] [] = some ([(0, .d (.sl [])), (3, .fsl []), (4, .d (.int .i64 (0))), (10, .d (.bool false))], [], .exit 0) := by
      simp only [bodyAt, bodyOf, loop_seq, loop_cond, loop_block, loop_loop, loop_region, loop_skip, loop_ret, loop_exit, orE_some, orE_none, Code.first, Option.getD_some, Nat.reduceEqDiff, ↓reduceIte, Try.f32]
      rw [c_round]
      simp only [u32, Try.f32, sm, tys, Nat.reduceAdd, Nat.reduceSub, Nat.reduceEqDiff, Nat.reduceLeDiff, Nat.reduceLT, Nat.reduceMul, Nat.reduceBEq, ↓reduceIte, reduceCtorEq, Int.reduceLT, Int.reduceLE, Int.reduceGT, Int.reduceGE, Int.reduceBEq, Int.reduceBNe, Int.reduceEq, Int.reduceNe, Int.reduceAdd, Int.reduceSub, Int.reduceMul, Int.reduceNeg, Int.reduceToNat]
    simp only [bodyAt, bodyOf, loop_seq, loop_cond, loop_block, loop_loop, loop_region, loop_skip, loop_ret, loop_exit, orE_some, orE_none, Code.first, Option.getD_some, Nat.reduceEqDiff, ↓reduceIte, Try.f32] at hloop
    simp only [u32, Try.f32, hloop, putsO, List.foldl_nil, sm, tys, Nat.reduceAdd, Nat.reduceSub, Nat.reduceEqDiff, Nat.reduceLeDiff, Nat.reduceLT, Nat.reduceMul, Nat.reduceBEq, ↓reduceIte, reduceCtorEq, Int.reduceLT, Int.reduceLE, Int.reduceGT, Int.reduceGE, Int.reduceBEq, Int.reduceBNe, Int.reduceEq, Int.reduceNe, Int.reduceAdd, Int.reduceSub, Int.reduceMul, Int.reduceNeg, Int.reduceToNat]
  | cons x r =>
    have hc : (0 : Int) < ((x :: r).length : Int) := by rw [List.length_cons]; omega
    have hin : evLoop E32 0 (bodyAt Try.f32 6) [(0, .d (.sl ((x :: r).map strD))), (3, .fsl []), (4, .d (.int .i64 (0))), (5, .d (.int .i64 (0)))] [] = some ([(0, .d (.sl ((x :: r).map strD))), (3, .fsl []), (4, .d (.int .i64 (0))), (5, .d (.int .i64 (0))), (27, .d (.bool false))], [], .exit 2) := by
      simp only [bodyAt, bodyOf, loop_seq, loop_cond, loop_block, loop_loop, loop_region, loop_skip, loop_ret, loop_exit, orE_some, orE_none, Code.first, Option.getD_some, Nat.reduceEqDiff, ↓reduceIte, Try.f32]
      rw [c_round]
      simp only [u32, Try.f32, sm, tys, Nat.reduceAdd, Nat.reduceSub, Nat.reduceEqDiff, Nat.reduceLeDiff, Nat.reduceLT, Nat.reduceMul, Nat.reduceBEq, ↓reduceIte, reduceCtorEq, Int.reduceLT, Int.reduceLE, Int.reduceGT, Int.reduceGE, Int.reduceBEq, Int.reduceBNe, Int.reduceEq, Int.reduceNe, Int.reduceAdd, Int.reduceSub, Int.reduceMul, Int.reduceNeg, Int.reduceToNat]
    have hout := sorted_outer (bd := bodyAt Try.f32 3) rfl (x :: r) hl r.length 1 [x] (by simp; omega) (List.pairwise_singleton _ _) (by simp at hh ⊢; omega)
    have e : putsO ordS [] (x :: r) = putsO ordS [x] r := by unfold putsO; rw [List.foldl_cons]; rfl
    have hw : IntKind.i64.wrap ((0 : Int) + 1) = 1 := by rw [wrap_i64 (by omega) (by omega)]; rfl
    rw [e]
    simp only [bodyAt, bodyOf, loop_seq, loop_cond, loop_block, loop_loop, loop_region, loop_skip, loop_ret, loop_exit, orE_some, orE_none, Code.first, Option.getD_some, Nat.reduceEqDiff, ↓reduceIte, Try.f32] at hin hout
    simp only [Int.cast_ofNat_Int, List.map_cons, List.map_nil, List.length_nil, List.length_cons, List.drop_succ_cons, List.drop_zero, List.nil_append, strD] at hin hout hc
    generalize putsO ordS [x] r = z at *
    simp only [u32, Try.f32, sm, tys, Nat.reduceAdd, Nat.reduceSub, Nat.reduceEqDiff, Nat.reduceLeDiff, Nat.reduceLT, Nat.reduceMul, Nat.reduceBEq, ↓reduceIte, reduceCtorEq, Int.reduceLT, Int.reduceLE, Int.reduceGT, Int.reduceGE, Int.reduceBEq, Int.reduceBNe, Int.reduceEq, Int.reduceNe, Int.reduceAdd, Int.reduceSub, Int.reduceMul, Int.reduceNeg, Int.reduceToNat]
    rw [c_round]
    simp only [u32, Try.f32, hin, hc, hw, hout, strD, sm, tys, Nat.reduceAdd, Nat.reduceSub, Nat.reduceEqDiff, Nat.reduceLeDiff, Nat.reduceLT, Nat.reduceMul, Nat.reduceBEq, ↓reduceIte, reduceCtorEq, Int.reduceLT, Int.reduceLE, Int.reduceGT, Int.reduceGE, Int.reduceBEq, Int.reduceBNe, Int.reduceEq, Int.reduceNe, Int.reduceAdd, Int.reduceSub, Int.reduceMul, Int.reduceNeg, Int.reduceToNat]
end Go.Wm.Try1
namespace Go.Wm.Try1
open Go Go.Wm Go.Proofs
theorem mem_putO {α} [DecidableEq α] (o : Ord α) (l : List α) (x y : α) : y ∈ putO o l x ↔ y ∈ l ∨ y = x := by
  unfold putO
  split
  · rename_i h
    have hm := List.mem_of_getElem? h
    constructor
    · exact Or.inl
    · rintro (h | h)
      · exact h
      · rw [h]; exact hm
  · have e : y ∈ l ↔ y ∈ l.take (placeOf o l x) ∨ y ∈ l.drop (placeOf o l x) := by rw [← List.mem_append, List.take_append_drop]
    rw [List.mem_append, List.mem_cons, e]
    constructor
    · rintro (h | h | h)
      · exact Or.inl (Or.inl h)
      · exact Or.inr h
      · exact Or.inl (Or.inr h)
    · rintro ((h | h) | h)
      · exact Or.inl h
      · exact Or.inr (Or.inr h)
      · exact Or.inr (Or.inl h)
theorem mem_putsO {α} [DecidableEq α] (o : Ord α) (y : α) : ∀ (xs l : List α), y ∈ putsO o l xs ↔ y ∈ l ∨ y ∈ xs
  | [], l => by simp [putsO]
  | x :: r, l => by
    have h := mem_putsO o y r (putO o l x)
    rw [mem_putO] at h
    simp only [putsO, List.foldl_cons, List.mem_cons] at h ⊢
    rw [h, or_assoc]
theorem rising_ext {α} (o : Ord α) : ∀ (l m : List α), Rising o l → Rising o m → (∀ y, y ∈ l ↔ y ∈ m) → l = m
  | [], [], _, _, _ => rfl
  | [], b :: s, _, _, h => absurd ((h b).2 (by simp)) (by simp)
  | a :: r, [], _, _, h => absurd ((h a).1 (by simp)) (by simp)
  | a :: r, b :: s, hl, hm, h => by
    obtain ⟨l1, l2⟩ := List.pairwise_cons.1 hl
    obtain ⟨m1, m2⟩ := List.pairwise_cons.1 hm
    have n1 : o.lt a b = false := by
      cases e : o.lt a b with
      | false => rfl
      | true =>
        rcases List.mem_cons.1 ((h a).1 (by simp)) with q | q
        · rw [q, o.irr] at e; cases e
        · have := o.trans _ _ _ e (m1 a q); rw [o.irr] at this; cases this
    have n2 : o.lt b a = false := by
      cases e : o.lt b a with
      | false => rfl
      | true =>
        rcases List.mem_cons.1 ((h b).2 (by simp)) with q | q
        · rw [q, o.irr] at e; cases e
        · have := o.trans _ _ _ e (l1 b q); rw [o.irr] at this; cases this
    have e := o.tot _ _ n1 n2
    subst e
    have : r = s := by
      apply rising_ext o r s l2 m2
      intro y
      constructor
      · intro hy
        rcases List.mem_cons.1 ((h y).1 (List.mem_cons_of_mem _ hy)) with q | q
        · have := l1 y hy; rw [q, o.irr] at this; cases this
        · exact q
      · intro hy
        rcases List.mem_cons.1 ((h y).2 (List.mem_cons_of_mem _ hy)) with q | q
        · have := m1 y hy; rw [q, o.irr] at this; cases this
        · exact q
    rw [this]
theorem putsO_nil_rising {α} [DecidableEq α] (o : Ord α) (xs : List α) : Rising o (putsO o [] xs) := putsO_rising o xs [] .nil
theorem putsO_same {α} [DecidableEq α] (o : Ord α) (xs ys : List α) (h : ∀ y, y ∈ xs ↔ y ∈ ys) : putsO o [] xs = putsO o [] ys := by
  apply rising_ext o _ _ (putsO_nil_rising o xs) (putsO_nil_rising o ys)
  intro y
  rw [mem_putsO, mem_putsO, h]
theorem putsO_app {α} [DecidableEq α] (o : Ord α) (l a b : List α) : putsO o l (a ++ b) = putsO o (putsO o l a) b := by
  unfold putsO
  rw [List.foldl_append]
theorem putsO_fix {α} [DecidableEq α] (o : Ord α) (l : List α) (h : Rising o l) : putsO o [] l = l := by
  apply rising_ext o _ _ (putsO_nil_rising o l) h
  intro y
  rw [mem_putsO]
  simp
theorem putsO_more {α} [DecidableEq α] (o : Ord α) (l xs : List α) (h : Rising o l) : putsO o [] (l ++ xs) = putsO o l xs := by
  rw [putsO_app, putsO_fix o l h]
theorem putsO_one {α} [DecidableEq α] (o : Ord α) (l : List α) (x : α) (h : Rising o l) : putsO o [] (l ++ [x]) = putO o l x := by
  rw [putsO_more o l [x] h]
  rfl
/-- what the document's Of goes through -/
structure RSt where
  names : List Str
  used : Res
  ports : List Int
  disks : List Str
def RSt.step (r : RSt) (p : Pod) : RSt := if p.name ∈ r.names then r else ⟨r.names ++ [p.name], r.used.add p.want, r.ports ++ p.ports, r.disks ++ p.claims⟩
def RSt.none : RSt := ⟨[], ⟨0, 0, 0⟩, [], []⟩
def RSt.info (n : Node) (r : RSt) : Info := ⟨n, putsO ordS [] r.names, r.used, putsO ordI [] r.ports, putsO ordS [] r.disks⟩
theorem rst_step (n : Node) (r : RSt) (p : Pod) : (r.step p).info n = (r.info n).step p := by
  unfold RSt.step Info.step
  have hm : p.name ∈ (r.info n).names ↔ p.name ∈ r.names := by
    unfold RSt.info
    simp only [mem_putsO, List.not_mem_nil, false_or]
  by_cases h : p.name ∈ r.names
  · rw [if_pos h, if_pos (hm.2 h)]
  · rw [if_neg h, if_neg (fun q => h (hm.1 q))]
    unfold RSt.info Info.plus
    simp only [putsO_app]
    rfl
theorem rst_of (n : Node) : ∀ (l : List Pod) (r : RSt), (l.foldl RSt.step r).info n = l.foldl Info.step (r.info n)
  | [], r => rfl
  | p :: l, r => by rw [List.foldl_cons, List.foldl_cons, rst_of n l, rst_step]
theorem rst_all (n : Node) (l : List Pod) : (l.foldl RSt.step RSt.none).info n = Info.of n l := rst_of n l RSt.none
theorem of_good (n : Node) : ∀ (l : List Pod) (x : Info), x.good → (l.foldl Info.step x).good
  | [], x, h => h
  | p :: l, x, h => by rw [List.foldl_cons]; exact of_good n l _ (step_good x p h)
theorem info_good (n : Node) (l : List Pod) : (Info.of n l).good := of_good n l _ ⟨.nil, .nil, .nil⟩
theorem of_node : ∀ (l : List Pod) (x : Info), (l.foldl Info.step x).node = x.node
  | [], x => rfl
  | p :: l, x => by rw [List.foldl_cons, of_node l, step_node]
theorem info_node (n : Node) (l : List Pod) : (Info.of n l).node = n := of_node l _
theorem of_len : ∀ (l : List Pod) (x : Info), (l.foldl Info.step x).names.length ≤ x.names.length + l.length ∧ (l.foldl Info.step x).ports.length ≤ x.ports.length + portsOf l ∧ (l.foldl Info.step x).disks.length ≤ x.disks.length + claimsOf l
  | [], x => by simp [portsOf, claimsOf]
  | p :: l, x => by
    obtain ⟨h1, h2, h3⟩ := of_len l (x.step p)
    obtain ⟨q1, q2, q3⟩ := step_len x p
    simp only [List.foldl_cons, List.length_cons, portsOf, claimsOf, List.map_cons, List.sum_cons] at h1 h2 h3 ⊢
    exact ⟨by omega, by omega, by omega⟩
theorem info_len (n : Node) (l : List Pod) : (Info.of n l).names.length ≤ l.length ∧ (Info.of n l).ports.length ≤ portsOf l ∧ (Info.of n l).disks.length ≤ claimsOf l := by
  obtain ⟨h1, h2, h3⟩ := of_len l (Info.none n)
  simp only [Info.none, List.length_nil, Nat.zero_add] at h1 h2 h3
  exact ⟨h1, h2, h3⟩
theorem info_ok (n : Node) (hn : n.ok) (l : List Pod) (h : Pods.ok l) : (Info.of n l).ok := by
  obtain ⟨h1, h2, h3⟩ := info_len n l
  obtain ⟨q1, q2, q3⟩ := h
  unfold Info.ok Small at *
  rw [info_node]
  exact ⟨hn, by omega, by omega, by omega⟩
theorem step_names (x : Info) (p : Pod) (y : Str) : y ∈ (x.step p).names ↔ y ∈ x.names ∨ y = p.name := by
  unfold Info.step
  split
  · rename_i h
    constructor
    · exact Or.inl
    · rintro (q | q)
      · exact q
      · rw [q]; exact h
  · unfold Info.plus
    simp only [mem_putO]
theorem of_names (y : Str) : ∀ (l : List Pod) (x : Info), y ∈ (l.foldl Info.step x).names ↔ y ∈ x.names ∨ y ∈ l.map Pod.name
  | [], x => by simp
  | p :: l, x => by rw [List.foldl_cons, of_names y l, step_names, List.map_cons, List.mem_cons, or_assoc]
theorem info_names (n : Node) (l : List Pod) (y : Str) : y ∈ (Info.of n l).names ↔ y ∈ l.map Pod.name := by
  unfold Info.of
  rw [of_names]
  simp [Info.none]
/-- amounts may be added in whatever order -/
theorem addA_swap (s a b : Int) : addA (addA s a) b = addA (addA s b) a := by
  unfold addA
  have h1 := cl_nn s
  have h2 := cl_nn a
  have h3 := cl_nn b
  have g1 := cl_le s
  have g2 := cl_le a
  have g3 := cl_le b
  generalize cl s = x at *
  generalize cl a = y at *
  generalize cl b = z at *
  have e : ∀ t : Int, 0 ≤ t → cl t = if 1125899906842624 < t then 1125899906842624 else t := fun t ht => by unfold cl; rw [if_neg (by omega)]
  have c1 := cl_nn (x + y)
  have c2 := cl_nn (x + z)
  have d1 := cl_nn (cl (x + y))
  have d2 := cl_nn (cl (x + z))
  rw [e (cl (cl (x + y)) + z) (by omega), e (cl (cl (x + z)) + y) (by omega), e (cl (x + y)) c1, e (cl (x + z)) c2, e (x + y) (by omega), e (x + z) (by omega)]
  clear c1 c2 d1 d2 e
  by_cases a1 : 1125899906842624 < x + y <;> by_cases a2 : 1125899906842624 < x + z <;> simp only [a1, a2, if_true, if_false, Int.lt_irrefl] <;> (repeat' split) <;> omega
theorem res_swap (s a b : Res) : (s.add a).add b = (s.add b).add a := by
  unfold Res.add
  simp only [addA_swap s.cpu a.cpu b.cpu, addA_swap s.mem a.mem b.mem, addA_swap s.disk a.disk b.disk]
/-- all of a list whose names are distinct -/
def Info.all (n : Node) (l : List Pod) : Info := ⟨n, putsO ordS [] (l.map Pod.name), l.foldl (fun r p => r.add p.want) ⟨0, 0, 0⟩, putsO ordI [] (l.flatMap Pod.ports), putsO ordS [] (l.flatMap Pod.claims)⟩
theorem rst_distinct : ∀ (l : List Pod) (r : RSt), (r.names ++ l.map Pod.name).Nodup → l.foldl RSt.step r = ⟨r.names ++ l.map Pod.name, l.foldl (fun r p => r.add p.want) r.used, r.ports ++ l.flatMap Pod.ports, r.disks ++ l.flatMap Pod.claims⟩
  | [], r, _ => by simp
  | p :: l, r, h => by
    have hn : ¬ p.name ∈ r.names := by
      intro q
      have := (List.nodup_append.1 h).2.2 p.name q p.name (by simp)
      exact this rfl
    have e : r.step p = ⟨r.names ++ [p.name], r.used.add p.want, r.ports ++ p.ports, r.disks ++ p.claims⟩ := by unfold RSt.step; rw [if_neg hn]
    rw [List.foldl_cons, e, rst_distinct l _ (by simpa using h)]
    simp
theorem of_all (n : Node) (l : List Pod) (h : (l.map Pod.name).Nodup) : Info.of n l = Info.all n l := by
  rw [← rst_all, rst_distinct l RSt.none (by simpa [RSt.none] using h)]
  simp [RSt.info, RSt.none, Info.all]
theorem of_perm (n : Node) (l m : List Pod) (h : l.Perm m) (hd : (l.map Pod.name).Nodup) : Info.of n l = Info.of n m := by
  rw [of_all n l hd, of_all n m ((h.map Pod.name).nodup_iff.1 hd)]
  unfold Info.all
  have e1 : putsO ordS [] (l.map Pod.name) = putsO ordS [] (m.map Pod.name) := putsO_same _ _ _ fun y => (h.map Pod.name).mem_iff
  have e2 : putsO ordI [] (l.flatMap Pod.ports) = putsO ordI [] (m.flatMap Pod.ports) := putsO_same _ _ _ fun y => by simp only [List.mem_flatMap, h.mem_iff]
  have e3 : putsO ordS [] (l.flatMap Pod.claims) = putsO ordS [] (m.flatMap Pod.claims) := putsO_same _ _ _ fun y => by simp only [List.mem_flatMap, h.mem_iff]
  have e4 : l.foldl (fun r p => r.add p.want) (⟨0, 0, 0⟩ : Res) = m.foldl (fun r p => r.add p.want) ⟨0, 0, 0⟩ := h.foldl_eq' (fun a _ b _ s => (res_swap s a.want b.want)) _
  rw [e1, e2, e3, e4]
/-- who stays when a pod goes -/
def staysOf (ns : List Str) (p : Pod) (rest : List Pod) : List Pod := rest.filter fun q => !(decide (q.name = p.name) || !decide (q.name ∈ ns))
theorem stays_back (n : Node) (l : List Pod) (p : Pod) (h : ¬ p.name ∈ (Info.of n l).names) : staysOf ((Info.of n l).plus p).names p (l ++ [p]) = l := by
  unfold staysOf
  rw [List.filter_append]
  have e1 : [p].filter (fun q => !(decide (q.name = p.name) || !decide (q.name ∈ ((Info.of n l).plus p).names))) = [] := by simp
  have e2 : l.filter (fun q => !(decide (q.name = p.name) || !decide (q.name ∈ ((Info.of n l).plus p).names))) = l := by
    rw [List.filter_eq_self]
    intro q hq
    have hm : q.name ∈ l.map Pod.name := List.mem_map.2 ⟨q, hq, rfl⟩
    rw [info_names] at h
    have hne : ¬ q.name = p.name := fun e => h (e ▸ hm)
    have hin : q.name ∈ ((Info.of n l).plus p).names := by
      unfold Info.plus
      simp only [mem_putO, info_names]
      exact Or.inl hm
    simp [hne, hin]
  rw [e1, e2, List.append_nil]
end Go.Wm.Try1
namespace Go.Wm.Try1
open Go Go.Wm Go.Proofs
theorem rst_len (r : RSt) (p : Pod) : (r.step p).names.length ≤ r.names.length + 1 ∧ (r.step p).ports.length ≤ r.ports.length + p.ports.length ∧ (r.step p).disks.length ≤ r.disks.length + p.claims.length := by
  unfold RSt.step
  split
  · exact ⟨by omega, by omega, by omega⟩
  · exact ⟨by simp, by simp, by simp⟩
theorem rst_lens : ∀ (l : List Pod) (r : RSt), (l.foldl RSt.step r).names.length ≤ r.names.length + l.length ∧ (l.foldl RSt.step r).ports.length ≤ r.ports.length + portsOf l ∧ (l.foldl RSt.step r).disks.length ≤ r.disks.length + claimsOf l
  | [], r => by simp [portsOf, claimsOf]
  | p :: l, r => by
    obtain ⟨h1, h2, h3⟩ := rst_lens l (r.step p)
    obtain ⟨q1, q2, q3⟩ := rst_len r p
    simp only [List.foldl_cons, List.length_cons, portsOf, claimsOf, List.map_cons, List.sum_cons] at h1 h2 h3 ⊢
    exact ⟨by omega, by omega, by omega⟩
set_option maxHeartbeats 8000000 in
theorem rof_loop {bd : Code} (hb : bd = bodyAt Try.f10 4) (n : Node) (l : List Pod) (hl : Small l) :
    ∀ (k i : Nat) (x : RSt), i + k = l.length → x.names.length + k ≤ 1073741824 → x.ports.length + portsOf (l.drop i) ≤ 1073741824 → x.disks.length + claimsOf (l.drop i) ≤ 1073741824 →
    evLoop E10 0 bd [(1, .d (.sl (l.map Pod.d))), (4, .ptr 0 0), (5, .ptr 1 0), (6, .own 2 ((x).names.map strD)), (7, .own 3 ((x).ports.map intD)), (8, .own 4 ((x).disks.map strD)), (9, .d (.int .i64 ((i : Int))))] [.box [.d (.str []), .nil, .nil, .d (.bool false), .d (.int .i64 (0)), .d (.int .i64 (0)), .d (.int .i64 (0)), .d (.int .i64 (0)), .d (.int .i64 (0)), .nil, .d (.int .i64 (0)), .d (.int .i64 (0)), .d (.int .i64 (0)), .nil, .nil], .box [.d (.str n.name), .d (.sl (n.labels.map Label.d)), .d (.sl (n.taints.map Taint.d)), .d (.bool n.off), .d (.int .i64 (n.give.cpu)), .d (.int .i64 (n.give.mem)), .d (.int .i64 (n.give.disk)), .d (.int .i64 (n.pods)), .d (.int .i64 (n.disks)), .nil, .d (.int .i64 ((x).used.cpu)), .d (.int .i64 ((x).used.mem)), .d (.int .i64 ((x).used.disk)), .nil, .nil], .tok 9 (x).names.length 1, .tok 3 (x).ports.length 1, .tok 9 (x).disks.length 1] = some ([(1, .d (.sl (l.map Pod.d))), (4, .ptr 0 0), (5, .ptr 1 0), (6, .own 2 (((l.drop i).foldl RSt.step x).names.map strD)), (7, .own 3 (((l.drop i).foldl RSt.step x).ports.map intD)), (8, .own 4 (((l.drop i).foldl RSt.step x).disks.map strD)), (9, .d (.int .i64 (l.length))), (18, .d (.bool false))], [.box [.d (.str []), .nil, .nil, .d (.bool false), .d (.int .i64 (0)), .d (.int .i64 (0)), .d (.int .i64 (0)), .d (.int .i64 (0)), .d (.int .i64 (0)), .nil, .d (.int .i64 (0)), .d (.int .i64 (0)), .d (.int .i64 (0)), .nil, .nil], .box [.d (.str n.name), .d (.sl (n.labels.map Label.d)), .d (.sl (n.taints.map Taint.d)), .d (.bool n.off), .d (.int .i64 (n.give.cpu)), .d (.int .i64 (n.give.mem)), .d (.int .i64 (n.give.disk)), .d (.int .i64 (n.pods)), .d (.int .i64 (n.disks)), .nil, .d (.int .i64 (((l.drop i).foldl RSt.step x).used.cpu)), .d (.int .i64 (((l.drop i).foldl RSt.step x).used.mem)), .d (.int .i64 (((l.drop i).foldl RSt.step x).used.disk)), .nil, .nil], .tok 9 ((l.drop i).foldl RSt.step x).names.length 1, .tok 3 ((l.drop i).foldl RSt.step x).ports.length 1, .tok 9 ((l.drop i).foldl RSt.step x).disks.length 1], .exit 0) := by
  simp only [bodyAt, bodyOf, loop_seq, loop_cond, loop_block, loop_loop, loop_region, loop_skip, loop_ret, loop_exit, orE_some, orE_none, Code.first, Option.getD_some, Nat.reduceEqDiff, ↓reduceIte, Try.f10] at hb
  subst hb
  unfold Small at hl
  intro k
  induction k with
  | zero =>
    intro i x hk h1 h2 h3
    have hi : (i : Int) = (l.length : Int) := by omega
    have hd : l.drop i = [] := by rw [List.drop_eq_nil_iff]; omega
    rw [c_round, hd]
    simp only [u10, Try.f10, hi, List.foldl_nil, Int.lt_irrefl, sm, tys, Nat.reduceAdd, Nat.reduceSub, Nat.reduceEqDiff, Nat.reduceLeDiff, Nat.reduceLT, Nat.reduceMul, Nat.reduceBEq, ↓reduceIte, reduceCtorEq, Int.reduceLT, Int.reduceLE, Int.reduceGT, Int.reduceGE, Int.reduceBEq, Int.reduceBNe, Int.reduceEq, Int.reduceNe, Int.reduceAdd, Int.reduceSub, Int.reduceMul, Int.reduceNeg, Int.reduceToNat]
  | succ k ih =>
    intro i x hk h1 h2 h3
    have hi : (i : Int) < (l.length : Int) := by omega
    have h0 : 0 ≤ (i : Int) := by omega
    have hlt : i < l.length := by omega
    have hci : l[i]? = some l[i] := by simp [hlt]
    have hd : l.drop i = l[i] :: l.drop (i + 1) := List.drop_eq_getElem_cons hlt
    generalize l[i] = p at hci hd
    rw [hd] at h2 h3
    simp only [portsOf, claimsOf, List.map_cons, List.sum_cons] at h2 h3
    have hw : IntKind.i64.wrap ((i : Int) + 1) = ((i + 1 : Nat) : Int) := by rw [wrap_i64 (by omega) (by omega)]; omega
    have hcon := has_eq x.names (by unfold Small; omega) p.name
    obtain ⟨q1, q2, q3⟩ := rst_len x p
    have hq := ih (i + 1) (x.step p) (by omega) (by omega) (by unfold portsOf; omega) (by unfold claimsOf; omega)
    rw [hd, List.foldl_cons, ← hq, c_round]
    by_cases hm : p.name ∈ x.names
    · have e : x.step p = x := by unfold RSt.step; rw [if_pos hm]
      rw [e]
      simp only [hm, decide_true] at hcon
      simp only [u10, Try.f10, hi, h0, hci, hw, Pod.d, Pod.cs, hcon, sm, tys, Nat.reduceAdd, Nat.reduceSub, Nat.reduceEqDiff, Nat.reduceLeDiff, Nat.reduceLT, Nat.reduceMul, Nat.reduceBEq, ↓reduceIte, reduceCtorEq, Int.reduceLT, Int.reduceLE, Int.reduceGT, Int.reduceGE, Int.reduceBEq, Int.reduceBNe, Int.reduceEq, Int.reduceNe, Int.reduceAdd, Int.reduceSub, Int.reduceMul, Int.reduceNeg, Int.reduceToNat]
    · have e : x.step p = ⟨x.names ++ [p.name], x.used.add p.want, x.ports ++ p.ports, x.disks ++ p.claims⟩ := by unfold RSt.step; rw [if_neg hm]
      rw [e]
      simp only [hm, decide_false] at hcon
      have hpl := rplus_eq x.used p.want
      simp only [Res.d] at hpl
      have a1 := all_strD x.names
      have a2 := all_intD p.ports
      have a3 := all_strD p.claims
      have a4 := all_strD x.disks
      have a5 := all_intD x.ports
      have l1 : x.names.length + 1 ≤ 2147483648 := by omega
      have l2 : x.ports.length + p.ports.length ≤ 2147483648 := by omega
      have l3 : x.disks.length + p.claims.length ≤ 2147483648 := by omega
      simp only [u10, Try.f10, hi, h0, hci, hw, Pod.d, Pod.cs, hcon, hpl, a1, a2, a3, a4, a5, l1, l2, l3, List.map_append, List.length_append, strD, sm, tys, Nat.reduceAdd, Nat.reduceSub, Nat.reduceEqDiff, Nat.reduceLeDiff, Nat.reduceLT, Nat.reduceMul, Nat.reduceBEq, ↓reduceIte, reduceCtorEq, Int.reduceLT, Int.reduceLE, Int.reduceGT, Int.reduceGE, Int.reduceBEq, Int.reduceBNe, Int.reduceEq, Int.reduceNe, Int.reduceAdd, Int.reduceSub, Int.reduceMul, Int.reduceNeg, Int.reduceToNat]
set_option maxHeartbeats 8000000 in
theorem rof_eq (n : Node) (l : List Pod) (hl : Pods.ok l) : v10 [.d n.d, .d (.sl (l.map Pod.d))] [] = some (.d (Info.of n l).d, []) := by
  have h := rof_loop (bd := bodyAt Try.f10 4) rfl n l hl.1 l.length 0 RSt.none (by omega) (by have := hl.1; unfold Small at this; simp [RSt.none]; omega) (by simpa [RSt.none] using hl.2.1) (by simpa [RSt.none] using hl.2.2)
  rw [List.drop_zero] at h
  simp only [bodyAt, bodyOf, loop_seq, loop_cond, loop_block, loop_loop, loop_region, loop_skip, loop_ret, loop_exit, orE_some, orE_none, Code.first, Option.getD_some, Nat.reduceEqDiff, ↓reduceIte, Try.f10] at h
  simp only [RSt.none, Int.cast_ofNat_Int, List.map_nil, List.length_nil] at h
  obtain ⟨q1, q2, q3⟩ := rst_lens l RSt.none
  have e : l.foldl RSt.step ⟨[], ⟨0, 0, 0⟩, [], []⟩ = l.foldl RSt.step RSt.none := rfl
  rw [e] at h
  rw [← rst_all]
  obtain ⟨p1, p2, p3⟩ := hl
  unfold Small at p1
  simp only [RSt.none, List.length_nil, Nat.zero_add] at q1 q2 q3
  have e : l.foldl RSt.step ⟨[], ⟨0, 0, 0⟩, [], []⟩ = l.foldl RSt.step RSt.none := rfl
  rw [e] at q1 q2 q3
  generalize l.foldl RSt.step RSt.none = x at *
  have s1 := sorted_eq x.names (by unfold Small; omega)
  have s2 := rints_eq x.ports (by unfold Small; omega)
  have s3 := sorted_eq x.disks (by unfold Small; omega)
  have t1 := List.take_length (l := x.names.map strD)
  have t2 := List.take_length (l := x.ports.map intD)
  have t3 := List.take_length (l := x.disks.map strD)
  rw [List.length_map] at t1 t2 t3
  simp only [u10, Try.f10, Node.d, Node.cs, Info.d, Info.cs, RSt.info, h, s1, s2, s3, t1, t2, t3, sm, tys, Nat.reduceAdd, Nat.reduceSub, Nat.reduceEqDiff, Nat.reduceLeDiff, Nat.reduceLT, Nat.reduceMul, Nat.reduceBEq, ↓reduceIte, reduceCtorEq, Int.reduceLT, Int.reduceLE, Int.reduceGT, Int.reduceGE, Int.reduceBEq, Int.reduceBNe, Int.reduceEq, Int.reduceNe, Int.reduceAdd, Int.reduceSub, Int.reduceMul, Int.reduceNeg, Int.reduceToNat]
end Go.Wm.Try1
