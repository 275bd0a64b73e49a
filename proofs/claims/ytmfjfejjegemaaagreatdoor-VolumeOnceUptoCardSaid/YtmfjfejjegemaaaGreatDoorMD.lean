/-
  A part of the proof: an abstract run of the program, shown to be what the model does, and what it comes to.
-/
import Derived.Test.YtmfjfejjegemaaaGreatDoorMC
set_option linter.unusedSectionVars false
set_option linter.unnecessarySimpa false
set_option maxRecDepth 100000
set_option linter.unusedVariables false
set_option linter.unusedSimpArgs false
set_option linter.defProp false
namespace Go.Wm.Try1
open Go Go.Wm Go.Proofs
def misC (vs : List Vol) (c : Claim) : Bool := !decide (c.vol = []) && (match fnd Vol.name vs c.vol with | none => true | some j => (match vs[j]? with | some v => !decide (v.claim = c.name) | none => true))
def misV (cs : List Claim) (v : Vol) : Bool := !decide (v.claim = []) && (match fnd Claim.name cs v.claim with | none => true | some j => (match cs[j]? with | some c => !decide (c.vol = v.name) | none => true))
set_option maxHeartbeats 8000000 in
theorem check_loop3 {bd : Code} (hb : bd = bodyAt Tryz.f16 3) (s : State) (hl : Small s.claims) (ho : Small s.vols) (B : Nat) (hB : B ≤ 1073741824) : ∀ (k i m : Nat), i + k = s.claims.length → m ≤ B + i →
    evLoop E16 0 bd [(1, .ptr 0 0), (3, .d (.int .i64 ((m : Int)))), (11, .d (.sl (s.claims.map Claim.d))), (12, .d (.int .i64 (s.claims.length))), (13, .d (.int .i64 ((i : Int))))] [.box [.d (.sl (s.pods.map Pod.d)), .d (.sl (s.nodes.map Node.d)), .d (.sl (s.vols.map Vol.d)), .d (.sl (s.claims.map Claim.d)), .d (.sl (s.classes.map Class.d)), .d (.sl (s.budgets.map Budget.d))]] = some ([(1, .ptr 0 0), (3, .d (.int .i64 (((m + (s.claims.drop i).countP (misC s.vols) : Nat) : Int)))), (11, .d (.sl (s.claims.map Claim.d))), (12, .d (.int .i64 (s.claims.length))), (13, .d (.int .i64 (s.claims.length))), (14, .d (.bool false))], [.box [.d (.sl (s.pods.map Pod.d)), .d (.sl (s.nodes.map Node.d)), .d (.sl (s.vols.map Vol.d)), .d (.sl (s.claims.map Claim.d)), .d (.sl (s.classes.map Class.d)), .d (.sl (s.budgets.map Budget.d))]], .exit 0) := by
  simp only [bodyAt, bodyOf, loop_seq, loop_cond, loop_block, loop_loop, loop_region, loop_skip, loop_ret, loop_exit, orE_some, orE_none, Code.first, Option.getD_some, Nat.reduceEqDiff, ↓reduceIte, Tryz.f16] at hb
  subst hb
  unfold Small at hl
  intro k
  induction k with
  | zero =>
    intro i m hk hm
    have hi : (i : Int) = (s.claims.length : Int) := by omega
    have hd : s.claims.drop i = [] := by rw [List.drop_eq_nil_iff]; omega
    rw [c_round, hd, List.countP_nil, Nat.add_zero]
    simp only [u16, Tryz.f16, hi, Int.lt_irrefl, sm, tys, Nat.reduceAdd, Nat.reduceSub, Nat.reduceEqDiff, Nat.reduceLeDiff, Nat.reduceLT, Nat.reduceMul, Nat.reduceBEq, ↓reduceIte, reduceCtorEq, Int.reduceLT, Int.reduceLE, Int.reduceGT, Int.reduceGE, Int.reduceBEq, Int.reduceBNe, Int.reduceEq, Int.reduceNe, Int.reduceAdd, Int.reduceSub, Int.reduceMul, Int.reduceNeg, Int.reduceToNat]
  | succ k ih =>
    intro i m hk hm
    have hi : (i : Int) < (s.claims.length : Int) := by omega
    have h0 : 0 ≤ (i : Int) := by omega
    have hlt : i < s.claims.length := by omega
    have hci : s.claims[i]? = some s.claims[i] := by simp [hlt]
    have hd : s.claims.drop i = s.claims[i] :: s.claims.drop (i + 1) := List.drop_eq_getElem_cons hlt
    generalize s.claims[i] = c at hci hd
    have hw : IntKind.i64.wrap ((i : Int) + 1) = ((i + 1 : Nat) : Int) := by rw [wrap_i64 (by omega) (by omega)]; omega
    have hwm : IntKind.i64.wrap ((m : Int) + 1) = ((m + 1 : Nat) : Int) := by rw [wrap_i64 (by omega) (by omega)]; omega
    have hby := fun cl => by_Vol cl s.vols ho c.vol
    have ih0 := ih (i + 1) m (by omega) (by omega)
    have ih1 := ih (i + 1) (m + 1) (by omega) (by omega)
    rw [hd, List.countP_cons]
    by_cases e1 : c.vol = []
    · have e : misC s.vols c = false := by simp [misC, e1]
      rw [e, if_neg (by simp), Nat.add_zero, ← ih0, c_round]
      simp only [e1] at hby
      cases hf : fnd Vol.name s.vols [] with
      | none =>
        rw [hf] at hby
        simp only [idx] at hby
        simp only [u16, Tryz.f16, hi, h0, hci, hw, hby, e1, Claim.d, sm, tys, Nat.reduceAdd, Nat.reduceSub, Nat.reduceEqDiff, Nat.reduceLeDiff, Nat.reduceLT, Nat.reduceMul, Nat.reduceBEq, ↓reduceIte, reduceCtorEq, Int.reduceLT, Int.reduceLE, Int.reduceGT, Int.reduceGE, Int.reduceBEq, Int.reduceBNe, Int.reduceEq, Int.reduceNe, Int.reduceAdd, Int.reduceSub, Int.reduceMul, Int.reduceNeg, Int.reduceToNat]
      | some j =>
        rw [hf] at hby
        simp only [idx] at hby
        simp only [u16, Tryz.f16, hi, h0, hci, hw, hby, e1, Claim.d, sm, tys, Nat.reduceAdd, Nat.reduceSub, Nat.reduceEqDiff, Nat.reduceLeDiff, Nat.reduceLT, Nat.reduceMul, Nat.reduceBEq, ↓reduceIte, reduceCtorEq, Int.reduceLT, Int.reduceLE, Int.reduceGT, Int.reduceGE, Int.reduceBEq, Int.reduceBNe, Int.reduceEq, Int.reduceNe, Int.reduceAdd, Int.reduceSub, Int.reduceMul, Int.reduceNeg, Int.reduceToNat]
    · cases hf : fnd Vol.name s.vols c.vol with
      | none =>
        have e : misC s.vols c = true := by simp [misC, e1, hf]
        have e2 : m + ((s.claims.drop (i + 1)).countP (misC s.vols) + 1) = m + 1 + (s.claims.drop (i + 1)).countP (misC s.vols) := by omega
        rw [e, if_pos rfl, e2, ← ih1, c_round]
        rw [hf] at hby
        simp only [idx] at hby
        simp only [u16, Tryz.f16, hi, h0, hci, hw, hwm, hby, e1, Claim.d, sm, tys, Nat.reduceAdd, Nat.reduceSub, Nat.reduceEqDiff, Nat.reduceLeDiff, Nat.reduceLT, Nat.reduceMul, Nat.reduceBEq, ↓reduceIte, reduceCtorEq, Int.reduceLT, Int.reduceLE, Int.reduceGT, Int.reduceGE, Int.reduceBEq, Int.reduceBNe, Int.reduceEq, Int.reduceNe, Int.reduceAdd, Int.reduceSub, Int.reduceMul, Int.reduceNeg, Int.reduceToNat]
      | some j =>
        rw [hf] at hby
        simp only [idx] at hby
        obtain ⟨y, hy, _⟩ := fnd_lt hf
        have hjl : j < s.vols.length := (List.getElem?_eq_some_iff.1 hy).1
        have j0 : ¬ (j : Int) < 0 := by omega
        have j1 : (0 : Int) ≤ (j : Int) := by omega
        have j2 : (j : Int) < (s.vols.length : Int) := by omega
        by_cases e3 : y.claim = c.name
        · have e : misC s.vols c = false := by simp [misC, hf, hy, e3]
          rw [e, if_neg (by simp), Nat.add_zero, ← ih0, c_round]
          simp only [u16, Tryz.f16, hi, h0, hci, hw, hby, e1, e3, hy, j0, j1, j2, Claim.d, Vol.d, sm, tys, Nat.reduceAdd, Nat.reduceSub, Nat.reduceEqDiff, Nat.reduceLeDiff, Nat.reduceLT, Nat.reduceMul, Nat.reduceBEq, ↓reduceIte, reduceCtorEq, Int.reduceLT, Int.reduceLE, Int.reduceGT, Int.reduceGE, Int.reduceBEq, Int.reduceBNe, Int.reduceEq, Int.reduceNe, Int.reduceAdd, Int.reduceSub, Int.reduceMul, Int.reduceNeg, Int.reduceToNat]
        · have e : misC s.vols c = true := by simp [misC, e1, hf, hy, e3]
          have e2 : m + ((s.claims.drop (i + 1)).countP (misC s.vols) + 1) = m + 1 + (s.claims.drop (i + 1)).countP (misC s.vols) := by omega
          rw [e, if_pos rfl, e2, ← ih1, c_round]
          simp only [u16, Tryz.f16, hi, h0, hci, hw, hwm, hby, e1, e3, hy, j0, j1, j2, Claim.d, Vol.d, sm, tys, Nat.reduceAdd, Nat.reduceSub, Nat.reduceEqDiff, Nat.reduceLeDiff, Nat.reduceLT, Nat.reduceMul, Nat.reduceBEq, ↓reduceIte, reduceCtorEq, Int.reduceLT, Int.reduceLE, Int.reduceGT, Int.reduceGE, Int.reduceBEq, Int.reduceBNe, Int.reduceEq, Int.reduceNe, Int.reduceAdd, Int.reduceSub, Int.reduceMul, Int.reduceNeg, Int.reduceToNat]
set_option maxHeartbeats 8000000 in
theorem check_loop10 {bd : Code} (hb : bd = bodyAt Tryz.f16 10) (s : State) (hl : Small s.vols) (ho : Small s.claims) (B : Nat) (hB : B ≤ 1073741824) : ∀ (k i m : Nat), i + k = s.vols.length → m ≤ B + i →
    evLoop E16 0 bd [(1, .ptr 0 0), (3, .d (.int .i64 ((m : Int)))), (44, .d (.sl (s.vols.map Vol.d))), (45, .d (.int .i64 (s.vols.length))), (46, .d (.int .i64 ((i : Int))))] [.box [.d (.sl (s.pods.map Pod.d)), .d (.sl (s.nodes.map Node.d)), .d (.sl (s.vols.map Vol.d)), .d (.sl (s.claims.map Claim.d)), .d (.sl (s.classes.map Class.d)), .d (.sl (s.budgets.map Budget.d))]] = some ([(1, .ptr 0 0), (3, .d (.int .i64 (((m + (s.vols.drop i).countP (misV s.claims) : Nat) : Int)))), (44, .d (.sl (s.vols.map Vol.d))), (45, .d (.int .i64 (s.vols.length))), (46, .d (.int .i64 (s.vols.length))), (47, .d (.bool false))], [.box [.d (.sl (s.pods.map Pod.d)), .d (.sl (s.nodes.map Node.d)), .d (.sl (s.vols.map Vol.d)), .d (.sl (s.claims.map Claim.d)), .d (.sl (s.classes.map Class.d)), .d (.sl (s.budgets.map Budget.d))]], .exit 2) := by
  simp only [bodyAt, bodyOf, loop_seq, loop_cond, loop_block, loop_loop, loop_region, loop_skip, loop_ret, loop_exit, orE_some, orE_none, Code.first, Option.getD_some, Nat.reduceEqDiff, ↓reduceIte, Tryz.f16] at hb
  subst hb
  unfold Small at hl
  intro k
  induction k with
  | zero =>
    intro i m hk hm
    have hi : (i : Int) = (s.vols.length : Int) := by omega
    have hd : s.vols.drop i = [] := by rw [List.drop_eq_nil_iff]; omega
    rw [c_round, hd, List.countP_nil, Nat.add_zero]
    simp only [u16, Tryz.f16, hi, Int.lt_irrefl, sm, tys, Nat.reduceAdd, Nat.reduceSub, Nat.reduceEqDiff, Nat.reduceLeDiff, Nat.reduceLT, Nat.reduceMul, Nat.reduceBEq, ↓reduceIte, reduceCtorEq, Int.reduceLT, Int.reduceLE, Int.reduceGT, Int.reduceGE, Int.reduceBEq, Int.reduceBNe, Int.reduceEq, Int.reduceNe, Int.reduceAdd, Int.reduceSub, Int.reduceMul, Int.reduceNeg, Int.reduceToNat]
  | succ k ih =>
    intro i m hk hm
    have hi : (i : Int) < (s.vols.length : Int) := by omega
    have h0 : 0 ≤ (i : Int) := by omega
    have hlt : i < s.vols.length := by omega
    have hci : s.vols[i]? = some s.vols[i] := by simp [hlt]
    have hd : s.vols.drop i = s.vols[i] :: s.vols.drop (i + 1) := List.drop_eq_getElem_cons hlt
    generalize s.vols[i] = c at hci hd
    have hw : IntKind.i64.wrap ((i : Int) + 1) = ((i + 1 : Nat) : Int) := by rw [wrap_i64 (by omega) (by omega)]; omega
    have hwm : IntKind.i64.wrap ((m : Int) + 1) = ((m + 1 : Nat) : Int) := by rw [wrap_i64 (by omega) (by omega)]; omega
    have hby := fun cl => by_Claim cl s.claims ho c.claim
    have ih0 := ih (i + 1) m (by omega) (by omega)
    have ih1 := ih (i + 1) (m + 1) (by omega) (by omega)
    rw [hd, List.countP_cons]
    by_cases e1 : c.claim = []
    · have e : misV s.claims c = false := by simp [misV, e1]
      rw [e, if_neg (by simp), Nat.add_zero, ← ih0, c_round]
      simp only [e1] at hby
      cases hf : fnd Claim.name s.claims [] with
      | none =>
        rw [hf] at hby
        simp only [idx] at hby
        simp only [u16, Tryz.f16, hi, h0, hci, hw, hby, e1, Vol.d, sm, tys, Nat.reduceAdd, Nat.reduceSub, Nat.reduceEqDiff, Nat.reduceLeDiff, Nat.reduceLT, Nat.reduceMul, Nat.reduceBEq, ↓reduceIte, reduceCtorEq, Int.reduceLT, Int.reduceLE, Int.reduceGT, Int.reduceGE, Int.reduceBEq, Int.reduceBNe, Int.reduceEq, Int.reduceNe, Int.reduceAdd, Int.reduceSub, Int.reduceMul, Int.reduceNeg, Int.reduceToNat]
      | some j =>
        rw [hf] at hby
        simp only [idx] at hby
        simp only [u16, Tryz.f16, hi, h0, hci, hw, hby, e1, Vol.d, sm, tys, Nat.reduceAdd, Nat.reduceSub, Nat.reduceEqDiff, Nat.reduceLeDiff, Nat.reduceLT, Nat.reduceMul, Nat.reduceBEq, ↓reduceIte, reduceCtorEq, Int.reduceLT, Int.reduceLE, Int.reduceGT, Int.reduceGE, Int.reduceBEq, Int.reduceBNe, Int.reduceEq, Int.reduceNe, Int.reduceAdd, Int.reduceSub, Int.reduceMul, Int.reduceNeg, Int.reduceToNat]
    · cases hf : fnd Claim.name s.claims c.claim with
      | none =>
        have e : misV s.claims c = true := by simp [misV, e1, hf]
        have e2 : m + ((s.vols.drop (i + 1)).countP (misV s.claims) + 1) = m + 1 + (s.vols.drop (i + 1)).countP (misV s.claims) := by omega
        rw [e, if_pos rfl, e2, ← ih1, c_round]
        rw [hf] at hby
        simp only [idx] at hby
        simp only [u16, Tryz.f16, hi, h0, hci, hw, hwm, hby, e1, Vol.d, sm, tys, Nat.reduceAdd, Nat.reduceSub, Nat.reduceEqDiff, Nat.reduceLeDiff, Nat.reduceLT, Nat.reduceMul, Nat.reduceBEq, ↓reduceIte, reduceCtorEq, Int.reduceLT, Int.reduceLE, Int.reduceGT, Int.reduceGE, Int.reduceBEq, Int.reduceBNe, Int.reduceEq, Int.reduceNe, Int.reduceAdd, Int.reduceSub, Int.reduceMul, Int.reduceNeg, Int.reduceToNat]
      | some j =>
        rw [hf] at hby
        simp only [idx] at hby
        obtain ⟨y, hy, _⟩ := fnd_lt hf
        have hjl : j < s.claims.length := (List.getElem?_eq_some_iff.1 hy).1
        have j0 : ¬ (j : Int) < 0 := by omega
        have j1 : (0 : Int) ≤ (j : Int) := by omega
        have j2 : (j : Int) < (s.claims.length : Int) := by omega
        by_cases e3 : y.vol = c.name
        · have e : misV s.claims c = false := by simp [misV, hf, hy, e3]
          rw [e, if_neg (by simp), Nat.add_zero, ← ih0, c_round]
          simp only [u16, Tryz.f16, hi, h0, hci, hw, hby, e1, e3, hy, j0, j1, j2, Claim.d, Vol.d, sm, tys, Nat.reduceAdd, Nat.reduceSub, Nat.reduceEqDiff, Nat.reduceLeDiff, Nat.reduceLT, Nat.reduceMul, Nat.reduceBEq, ↓reduceIte, reduceCtorEq, Int.reduceLT, Int.reduceLE, Int.reduceGT, Int.reduceGE, Int.reduceBEq, Int.reduceBNe, Int.reduceEq, Int.reduceNe, Int.reduceAdd, Int.reduceSub, Int.reduceMul, Int.reduceNeg, Int.reduceToNat]
        · have e : misV s.claims c = true := by simp [misV, e1, hf, hy, e3]
          have e2 : m + ((s.vols.drop (i + 1)).countP (misV s.claims) + 1) = m + 1 + (s.vols.drop (i + 1)).countP (misV s.claims) := by omega
          rw [e, if_pos rfl, e2, ← ih1, c_round]
          simp only [u16, Tryz.f16, hi, h0, hci, hw, hwm, hby, e1, e3, hy, j0, j1, j2, Claim.d, Vol.d, sm, tys, Nat.reduceAdd, Nat.reduceSub, Nat.reduceEqDiff, Nat.reduceLeDiff, Nat.reduceLT, Nat.reduceMul, Nat.reduceBEq, ↓reduceIte, reduceCtorEq, Int.reduceLT, Int.reduceLE, Int.reduceGT, Int.reduceGE, Int.reduceBEq, Int.reduceBNe, Int.reduceEq, Int.reduceNe, Int.reduceAdd, Int.reduceSub, Int.reduceMul, Int.reduceNeg, Int.reduceToNat]
def State.mis (s : State) : Nat := s.claims.countP (misC s.vols) + s.vols.countP (misV s.claims)
set_option maxHeartbeats 8000000 in
theorem check_eq (s : State) (h1 : Small s.claims) (h2 : Small s.vols) : v16 [.d s.d] [] = some (.d (.int .i64 ((s.mis : Int))), []) := by
  have l1 := check_loop3 (bd := bodyAt Tryz.f16 3) rfl s h1 h2 0 (by omega) s.claims.length 0 0 (by omega) (by omega)
  have hc := List.countP_le_length (p := misC s.vols) (l := s.claims)
  have hcb : s.claims.countP (misC s.vols) ≤ 1073741824 := by unfold Small at h1; omega
  have l2 := check_loop10 (bd := bodyAt Tryz.f16 10) rfl s h2 h1 (s.claims.countP (misC s.vols)) hcb s.vols.length 0 (s.claims.countP (misC s.vols)) (by omega) (by omega)
  rw [List.drop_zero] at l1 l2
  unfold State.mis
  rw [Nat.zero_add] at l1
  generalize s.claims.countP (misC s.vols) = a at *
  generalize a + s.vols.countP (misV s.claims) = b at *
  simp only [bodyAt, bodyOf, loop_seq, loop_cond, loop_block, loop_loop, loop_region, loop_skip, loop_ret, loop_exit, orE_some, orE_none, Code.first, Option.getD_some, Nat.reduceEqDiff, ↓reduceIte, Tryz.f16] at l1 l2
  simp only [Int.cast_ofNat_Int] at l1 l2
  simp only [u16, Tryz.f16, State.d, State.cs, l1, l2, sm, tys, Nat.reduceAdd, Nat.reduceSub, Nat.reduceEqDiff, Nat.reduceLeDiff, Nat.reduceLT, Nat.reduceMul, Nat.reduceBEq, ↓reduceIte, reduceCtorEq, Int.reduceLT, Int.reduceLE, Int.reduceGT, Int.reduceGE, Int.reduceBEq, Int.reduceBNe, Int.reduceEq, Int.reduceNe, Int.reduceAdd, Int.reduceSub, Int.reduceMul, Int.reduceNeg, Int.reduceToNat]
def freeL (vs : List Vol) : List Str := (vs.filter fun v => decide (v.claim = [])).map Vol.name
set_option maxHeartbeats 8000000 in
theorem free_loop {bd : Code} (hb : bd = bodyAt Tryz.f17 3) (l : List Vol) (hl : Small l) : ∀ (k i : Nat) (out : List Str), i + k = l.length → out.length ≤ i →
    evLoop E17 0 bd [(3, .own 0 (out.map strD)), (7, .d (.sl (l.map Vol.d))), (8, .d (.int .i64 (l.length))), (9, .d (.int .i64 ((i : Int))))] [.tok 9 out.length 1] = some ([(3, .own 0 ((out ++ freeL (l.drop i)).map strD)), (7, .d (.sl (l.map Vol.d))), (8, .d (.int .i64 (l.length))), (9, .d (.int .i64 (l.length))), (10, .d (.bool false))], [.tok 9 (out ++ freeL (l.drop i)).length 1], .exit 0) := by
  simp only [bodyAt, bodyOf, loop_seq, loop_cond, loop_block, loop_loop, loop_region, loop_skip, loop_ret, loop_exit, orE_some, orE_none, Code.first, Option.getD_some, Nat.reduceEqDiff, ↓reduceIte, Tryz.f17] at hb
  subst hb
  unfold Small at hl
  intro k
  induction k with
  | zero =>
    intro i out hk ho
    have hi : (i : Int) = (l.length : Int) := by omega
    have hd : l.drop i = [] := by rw [List.drop_eq_nil_iff]; omega
    have e : out ++ freeL (l.drop i) = out := by rw [hd]; simp [freeL]
    rw [c_round, e]
    simp only [u17, Tryz.f17, hi, Int.lt_irrefl, sm, tys, Nat.reduceAdd, Nat.reduceSub, Nat.reduceEqDiff, Nat.reduceLeDiff, Nat.reduceLT, Nat.reduceMul, Nat.reduceBEq, ↓reduceIte, reduceCtorEq, Int.reduceLT, Int.reduceLE, Int.reduceGT, Int.reduceGE, Int.reduceBEq, Int.reduceBNe, Int.reduceEq, Int.reduceNe, Int.reduceAdd, Int.reduceSub, Int.reduceMul, Int.reduceNeg, Int.reduceToNat]
  | succ k ih =>
    intro i out hk ho
    have hi : (i : Int) < (l.length : Int) := by omega
    have h0 : 0 ≤ (i : Int) := by omega
    have hlt : i < l.length := by omega
    have hci : l[i]? = some l[i] := by simp [hlt]
    have hd : l.drop i = l[i] :: l.drop (i + 1) := List.drop_eq_getElem_cons hlt
    generalize l[i] = c at hci hd
    have hw : IntKind.i64.wrap ((i : Int) + 1) = ((i + 1 : Nat) : Int) := by rw [wrap_i64 (by omega) (by omega)]; omega
    have hol : out.length + 1 ≤ 2147483648 := by omega
    by_cases e1 : c.claim = []
    · have e : out ++ freeL (l.drop i) = (out ++ [c.name]) ++ freeL (l.drop (i + 1)) := by rw [hd]; simp [freeL, e1]
      have hih := ih (i + 1) (out ++ [c.name]) (by omega) (by simp; omega)
      rw [e]
      generalize freeL (l.drop (i + 1)) = fl at *
      have k1 : ((out ++ [c.name]).map strD) = out.map strD ++ [D.str c.name] := by simp [strD]
      have k2 : (out ++ [c.name]).length = out.length + 1 := by simp
      rw [k1, k2] at hih
      rw [← hih, c_round]
      simp only [u17, Tryz.f17, hi, h0, hci, hw, hol, e1, Vol.d, sm, tys, Nat.reduceAdd, Nat.reduceSub, Nat.reduceEqDiff, Nat.reduceLeDiff, Nat.reduceLT, Nat.reduceMul, Nat.reduceBEq, ↓reduceIte, reduceCtorEq, Int.reduceLT, Int.reduceLE, Int.reduceGT, Int.reduceGE, Int.reduceBEq, Int.reduceBNe, Int.reduceEq, Int.reduceNe, Int.reduceAdd, Int.reduceSub, Int.reduceMul, Int.reduceNeg, Int.reduceToNat]
    · have e : out ++ freeL (l.drop i) = out ++ freeL (l.drop (i + 1)) := by rw [hd]; simp [freeL, e1]
      rw [e, ← ih (i + 1) out (by omega) (by omega), c_round]
      simp only [u17, Tryz.f17, hi, h0, hci, hw, e1, Vol.d, sm, tys, Nat.reduceAdd, Nat.reduceSub, Nat.reduceEqDiff, Nat.reduceLeDiff, Nat.reduceLT, Nat.reduceMul, Nat.reduceBEq, ↓reduceIte, reduceCtorEq, Int.reduceLT, Int.reduceLE, Int.reduceGT, Int.reduceGE, Int.reduceBEq, Int.reduceBNe, Int.reduceEq, Int.reduceNe, Int.reduceAdd, Int.reduceSub, Int.reduceMul, Int.reduceNeg, Int.reduceToNat]
theorem free_eq (s : State) (h : Small s.vols) : v17 [.d s.d] [] = some (.d (.sl ((freeL s.vols).map strD)), []) := by
  have l1 := free_loop (bd := bodyAt Tryz.f17 3) rfl s.vols h s.vols.length 0 [] (by omega) (by simp)
  rw [List.drop_zero] at l1
  simp only [bodyAt, bodyOf, loop_seq, loop_cond, loop_block, loop_loop, loop_region, loop_skip, loop_ret, loop_exit, orE_some, orE_none, Code.first, Option.getD_some, Nat.reduceEqDiff, ↓reduceIte, Tryz.f17] at l1
  simp only [Int.cast_ofNat_Int, List.map_nil, List.length_nil, List.nil_append] at l1
  generalize freeL s.vols = fl at *
  have ht := List.take_length (l := fl.map strD)
  rw [List.length_map] at ht
  simp only [u17, Tryz.f17, State.d, State.cs, l1, ht, sm, tys, Nat.reduceAdd, Nat.reduceSub, Nat.reduceEqDiff, Nat.reduceLeDiff, Nat.reduceLT, Nat.reduceMul, Nat.reduceBEq, ↓reduceIte, reduceCtorEq, Int.reduceLT, Int.reduceLE, Int.reduceGT, Int.reduceGE, Int.reduceBEq, Int.reduceBNe, Int.reduceEq, Int.reduceNe, Int.reduceAdd, Int.reduceSub, Int.reduceMul, Int.reduceNeg, Int.reduceToNat]
end Go.Wm.Try1
namespace Go.Wm.Try1
open Go Go.Wm Go.Proofs
theorem uniq_nodup : ∀ (l out : List Str), uniq out l = true → l.Nodup ∧ ∀ x ∈ l, x ≠ [] ∧ ¬ x ∈ out
  | [], out, _ => ⟨by simp, by simp⟩
  | x :: r, out, h => by
    unfold uniq at h
    by_cases e1 : x = []
    · rw [if_pos e1] at h; cases h
    · rw [if_neg e1] at h
      by_cases e2 : x ∈ out
      · rw [if_pos e2] at h; cases h
      · rw [if_neg e2] at h
        obtain ⟨h1, h2⟩ := uniq_nodup r (out ++ [x]) h
        refine ⟨List.nodup_cons.2 ⟨fun hx => (h2 x hx).2 (by simp), h1⟩, fun z hz => ?_⟩
        rcases List.mem_cons.1 hz with rfl | hz
        · exact ⟨e1, e2⟩
        · exact ⟨(h2 z hz).1, fun hz2 => (h2 z hz).2 (by simp [hz2])⟩
/-- each name once, none empty -/
def Good (cs : List Claim) (vs : List Vol) : Prop := (cs.map Claim.name).Nodup ∧ (vs.map Vol.name).Nodup ∧ (∀ c ∈ cs, c.name ≠ []) ∧ (∀ v ∈ vs, v.name ≠ [])
theorem once_good (s : State) (h : s.once = true) : Good s.claims s.vols := by
  unfold State.once at h
  rw [Bool.and_eq_true] at h
  obtain ⟨a1, a2⟩ := uniq_nodup _ _ h.1
  obtain ⟨b1, b2⟩ := uniq_nodup _ _ h.2
  exact ⟨a1, b1, fun c hc => (a2 c.name (List.mem_map.2 ⟨c, hc, rfl⟩)).1, fun v hv => (b2 v.name (List.mem_map.2 ⟨v, hv, rfl⟩)).1⟩
theorem name_inj {α : Type} (nm : α → Str) (l : List α) (h : (l.map nm).Nodup) {i j : Nat} {x y : α} (hx : l[i]? = some x) (hy : l[j]? = some y) (e : nm x = nm y) : i = j := by
  have hi : i < (l.map nm).length := by simpa using (List.getElem?_eq_some_iff.1 hx).1
  have e1 : (l.map nm)[i]? = some (nm x) := by rw [List.getElem?_map, hx]; rfl
  have e2 : (l.map nm)[j]? = some (nm y) := by rw [List.getElem?_map, hy]; rfl
  exact (List.getElem?_inj hi h).1 (by rw [e1, e2, e])
theorem misC_step (cs : List Claim) (vs : List Vol) (c v : Nat) (x : Claim) (y : Vol) (hg : Good cs vs) (hx : cs[c]? = some x) (hy : vs[v]? = some y) (hfy : fnd Vol.name vs y.name = some v) (e1 : x.vol = []) (e2 : y.claim = []) :
    (cs.set c { x with vol := y.name }).map (misC (vs.set v { y with claim := x.name })) = cs.map (misC vs) := by
  have hcl : c < cs.length := (List.getElem?_eq_some_iff.1 hx).1
  have hvl : v < vs.length := (List.getElem?_eq_some_iff.1 hy).1
  have hfs : ∀ q, fnd Vol.name (vs.set v { y with claim := x.name }) q = fnd Vol.name vs q := fun q => fnd_set Vol.name vs v y { y with claim := x.name } q hy rfl
  apply List.ext_getElem?
  intro i
  rw [List.getElem?_map, List.getElem?_map, List.getElem?_set]
  by_cases hi : c = i
  · subst hi
    rw [if_pos rfl, if_pos hcl, hx]
    simp only [Option.map_some, Option.some.injEq]
    have a : misC vs x = false := by simp [misC, e1]
    have b : misC (vs.set v { y with claim := x.name }) { x with vol := y.name } = false := by
      unfold misC
      simp only [hfs, hfy, List.getElem?_set, hvl, if_true]
      simp
    rw [a, b]
  · rw [if_neg hi]
    cases hd : cs[i]? with
    | none => rfl
    | some d =>
      simp only [Option.map_some, Option.some.injEq]
      unfold misC
      rw [hfs]
      by_cases ed : d.vol = []
      · simp [ed]
      · cases hf : fnd Vol.name vs d.vol with
        | none => rfl
        | some j =>
          by_cases hj : v = j
          · subst hj
            have n1 : ¬ x.name = d.name := fun e => hi (name_inj Claim.name cs hg.1 hx hd e)
            have n2 : ¬ ([] : Str) = d.name := fun e => hg.2.2.1 d (List.mem_of_getElem? hd) e.symm
            have hev : vs[v] = y := (List.getElem?_eq_some_iff.1 hy).2
            simp [List.getElem?_set, hvl, hev, ed, n1, n2, e2]
          · simp only [List.getElem?_set, if_neg hj]
theorem misV_step (cs : List Claim) (vs : List Vol) (c v : Nat) (x : Claim) (y : Vol) (hg : Good cs vs) (hx : cs[c]? = some x) (hy : vs[v]? = some y) (hfx : fnd Claim.name cs x.name = some c) (e1 : x.vol = []) (e2 : y.claim = []) :
    (vs.set v { y with claim := x.name }).map (misV (cs.set c { x with vol := y.name })) = vs.map (misV cs) := by
  have hcl : c < cs.length := (List.getElem?_eq_some_iff.1 hx).1
  have hvl : v < vs.length := (List.getElem?_eq_some_iff.1 hy).1
  have hfs : ∀ q, fnd Claim.name (cs.set c { x with vol := y.name }) q = fnd Claim.name cs q := fun q => fnd_set Claim.name cs c x { x with vol := y.name } q hx rfl
  apply List.ext_getElem?
  intro i
  rw [List.getElem?_map, List.getElem?_map, List.getElem?_set]
  by_cases hi : v = i
  · subst hi
    rw [if_pos rfl, if_pos hvl, hy]
    simp only [Option.map_some, Option.some.injEq]
    have a : misV cs y = false := by simp [misV, e2]
    have b : misV (cs.set c { x with vol := y.name }) { y with claim := x.name } = false := by
      unfold misV
      simp only [hfs, hfx, List.getElem?_set, hcl, if_true]
      simp
    rw [a, b]
  · rw [if_neg hi]
    cases hd : vs[i]? with
    | none => rfl
    | some d =>
      simp only [Option.map_some, Option.some.injEq]
      unfold misV
      rw [hfs]
      by_cases ed : d.claim = []
      · simp [ed]
      · cases hf : fnd Claim.name cs d.claim with
        | none => rfl
        | some j =>
          by_cases hj : c = j
          · subst hj
            have n1 : ¬ y.name = d.name := fun e => hi (name_inj Vol.name vs hg.2.1 hy hd e)
            have n2 : ¬ ([] : Str) = d.name := fun e => hg.2.2.2 d (List.mem_of_getElem? hd) e.symm
            have hev : cs[c] = x := (List.getElem?_eq_some_iff.1 hx).2
            simp [List.getElem?_set, hcl, hev, ed, n1, n2, e1]
          · simp only [List.getElem?_set, if_neg hj]
theorem countP_of_map {α β : Type} (p : α → Bool) (q : β → Bool) (l : List α) (m : List β) (h : l.map p = m.map q) : l.countP p = m.countP q := by
  have e1 : l.countP p = (l.map p).countP id := by rw [List.countP_map]; rfl
  have e2 : m.countP q = (m.map q).countP id := by rw [List.countP_map]; rfl
  rw [e1, e2, h]
theorem free_len (vs : List Vol) : (freeL vs).length = vs.countP fun v => decide (v.claim = []) := by
  unfold freeL
  rw [List.length_map, List.countP_eq_length_filter]
theorem apply_step (cs : List Claim) (vs : List Vol) (p : Pick) (c v : Nat) (x x' : Claim) (y y' : Vol) (hg : Good cs vs) (hc : fnd Claim.name cs p.claim = some c) (hv : fnd Vol.name vs p.vol = some v) (hx : cs[c]? = some x) (hy : vs[v]? = some y) (hd : doApply x y = some (x', y')) :
    x' = { x with vol := y.name } ∧ y' = { y with claim := x.name } ∧ x.vol = [] ∧ y.claim = [] ∧ Good (cs.set c x') (vs.set v y') ∧
    (cs.set c x').countP (misC (vs.set v y')) + (vs.set v y').countP (misV (cs.set c x')) = cs.countP (misC vs) + vs.countP (misV cs) ∧ (freeL (vs.set v y')).length + 1 = (freeL vs).length := by
  unfold doApply at hd
  split at hd
  · cases hd
  · rename_i hn
    simp only [not_or, Decidable.not_not] at hn
    simp only [Option.some.injEq, Prod.mk.injEq] at hd
    obtain ⟨rfl, rfl⟩ := hd
    obtain ⟨x0, hx0, hxn⟩ := fnd_lt hc
    obtain ⟨y0, hy0, hyn⟩ := fnd_lt hv
    rw [hx] at hx0; cases hx0
    rw [hy] at hy0; cases hy0
    rw [← hxn] at hc
    rw [← hyn] at hv
    have hvl : v < vs.length := (List.getElem?_eq_some_iff.1 hy).1
    refine ⟨rfl, rfl, hn.1, hn.2.1, ?_, ?_, ?_⟩
    · refine ⟨?_, ?_, fun d hd => ?_, fun d hd => ?_⟩
      · rw [map_set_same Claim.name cs c x { x with vol := y.name } hx rfl]; exact hg.1
      · rw [map_set_same Vol.name vs v y { y with claim := x.name } hy rfl]; exact hg.2.1
      · rcases List.mem_or_eq_of_mem_set hd with hd | rfl
        · exact hg.2.2.1 d hd
        · exact hg.2.2.1 x (List.mem_of_getElem? hx)
      · rcases List.mem_or_eq_of_mem_set hd with hd | rfl
        · exact hg.2.2.2 d hd
        · exact hg.2.2.2 y (List.mem_of_getElem? hy)
    · rw [countP_of_map _ _ _ _ (misC_step cs vs c v x y hg hx hy hv hn.1 hn.2.1), countP_of_map _ _ _ _ (misV_step cs vs c v x y hg hx hy hc hn.1 hn.2.1)]
    · rw [free_len, free_len, List.countP_set hvl]
      obtain ⟨_, he⟩ := List.getElem?_eq_some_iff.1 hy
      rw [he]
      have n1 : x.name ≠ [] := hg.2.2.1 x (List.mem_of_getElem? hx)
      have pos : 0 < vs.countP fun v => decide (v.claim = []) := List.countP_pos_iff.2 ⟨y, List.mem_of_getElem? hy, by simp [hn.2.1]⟩
      simp [hn.2.1, n1]
      omega
theorem busyC : ∀ (ps : List Pick) (cs : List Claim) (vs : List Vol) (cs1 : List Claim) (vs1 : List Vol) (q : Str) (c : Nat) (x : Claim), eachL doApply ps cs vs = .inl (cs1, vs1) → fnd Claim.name cs q = some c → cs[c]? = some x → x.vol ≠ [] → ∀ p ∈ ps, p.claim ≠ q
  | [], _, _, _, _, _, _, _, _, _, _, _ => by simp
  | p :: ps, cs, vs, cs1, vs1, q, c, x, h, hc, hx, hne => by
    simp only [eachL] at h
    split at h
    · rename_i c0 v0 hc0 hv0
      obtain ⟨x0, hx0, hn0⟩ := fnd_lt hc0
      obtain ⟨y0, hy0, _⟩ := fnd_lt hv0
      rw [hx0, hy0] at h
      simp only at h
      split at h
      · rename_i x' y' hd
        have hpq : p.claim ≠ q := by
          intro e
          rw [e, hc] at hc0
          cases hc0
          rw [hx] at hx0
          cases hx0
          unfold doApply at hd
          rw [if_pos (.inl hne)] at hd
          cases hd
        have hcc : ¬ c0 = c := by
          intro e
          subst e
          obtain ⟨z, hz, hzn⟩ := fnd_lt hc
          rw [hx0] at hz
          cases hz
          exact hpq (hn0.symm.trans hzn)
        have hxn : x'.name = x0.name := by
          unfold doApply at hd
          split at hd
          · cases hd
          · simp only [Option.some.injEq, Prod.mk.injEq] at hd
            rw [← hd.1]
        have ih := busyC ps _ _ cs1 vs1 q c x h (by rw [fnd_set Claim.name cs c0 x0 x' q hx0 hxn]; exact hc) (by rw [List.getElem?_set_ne hcc]; exact hx) hne
        intro p' hp'
        rcases List.mem_cons.1 hp' with rfl | hp'
        · exact hpq
        · exact ih p' hp'
      · cases h
    · cases h
theorem busyV : ∀ (ps : List Pick) (cs : List Claim) (vs : List Vol) (cs1 : List Claim) (vs1 : List Vol) (q : Str) (v : Nat) (y : Vol), eachL doApply ps cs vs = .inl (cs1, vs1) → fnd Vol.name vs q = some v → vs[v]? = some y → y.claim ≠ [] → ∀ p ∈ ps, p.vol ≠ q
  | [], _, _, _, _, _, _, _, _, _, _, _ => by simp
  | p :: ps, cs, vs, cs1, vs1, q, v, y, h, hv, hy, hne => by
    simp only [eachL] at h
    split at h
    · rename_i c0 v0 hc0 hv0
      obtain ⟨x0, hx0, _⟩ := fnd_lt hc0
      obtain ⟨y0, hy0, hn0⟩ := fnd_lt hv0
      rw [hx0, hy0] at h
      simp only at h
      split at h
      · rename_i x' y' hd
        have hpq : p.vol ≠ q := by
          intro e
          rw [e, hv] at hv0
          cases hv0
          rw [hy] at hy0
          cases hy0
          unfold doApply at hd
          rw [if_pos (.inr (.inl hne))] at hd
          cases hd
        have hcc : ¬ v0 = v := by
          intro e
          subst e
          obtain ⟨z, hz, hzn⟩ := fnd_lt hv
          rw [hy0] at hz
          cases hz
          exact hpq (hn0.symm.trans hzn)
        have hyn : y'.name = y0.name := by
          unfold doApply at hd
          split at hd
          · cases hd
          · simp only [Option.some.injEq, Prod.mk.injEq] at hd
            rw [← hd.2]
        have ih := busyV ps _ _ cs1 vs1 q v y h (by rw [fnd_set Vol.name vs v0 y0 y' q hy0 hyn]; exact hv) (by rw [List.getElem?_set_ne hcc]; exact hy) hne
        intro p' hp'
        rcases List.mem_cons.1 hp' with rfl | hp'
        · exact hpq
        · exact ih p' hp'
      · cases h
    · cases h
theorem once_all : ∀ (ps : List Pick) (cs : List Claim) (vs : List Vol) (cs1 : List Claim) (vs1 : List Vol), Good cs vs → eachL doApply ps cs vs = .inl (cs1, vs1) →
    cs1.countP (misC vs1) + vs1.countP (misV cs1) = cs.countP (misC vs) + vs.countP (misV cs) ∧ (freeL vs1).length + ps.length = (freeL vs).length ∧ ps.Pairwise fun a b => a.vol ≠ b.vol ∧ a.claim ≠ b.claim
  | [], cs, vs, cs1, vs1, _, h => by
    simp only [eachL] at h
    cases h
    exact ⟨rfl, rfl, .nil⟩
  | p :: ps, cs, vs, cs1, vs1, hg, h => by
    simp only [eachL] at h
    split at h
    · rename_i c v hc hv
      obtain ⟨x, hx, hxn⟩ := fnd_lt hc
      obtain ⟨y, hy, hyn⟩ := fnd_lt hv
      rw [hx, hy] at h
      simp only at h
      split at h
      · rename_i x' y' hd
        obtain ⟨ex, ey, e1, e2, g1, g2, g3⟩ := apply_step cs vs p c v x x' y y' hg hc hv hx hy hd
        obtain ⟨i1, i2, i3⟩ := once_all ps _ _ cs1 vs1 g1 h
        have hcl : c < cs.length := (List.getElem?_eq_some_iff.1 hx).1
        have hvl : v < vs.length := (List.getElem?_eq_some_iff.1 hy).1
        have b1 := busyC ps _ _ cs1 vs1 p.claim c x' h (by rw [fnd_set Claim.name cs c x x' _ hx (by rw [ex])]; exact hc) (by rw [List.getElem?_set, if_pos rfl, if_pos hcl]) (by rw [ex]; exact hg.2.2.2 y (List.mem_of_getElem? hy))
        have b2 := busyV ps _ _ cs1 vs1 p.vol v y' h (by rw [fnd_set Vol.name vs v y y' _ hy (by rw [ey])]; exact hv) (by rw [List.getElem?_set, if_pos rfl, if_pos hvl]) (by rw [ey]; exact hg.2.2.1 x (List.mem_of_getElem? hx))
        refine ⟨i1.trans g2, by simp only [List.length_cons]; omega, List.pairwise_cons.2 ⟨fun q hq => ⟨(b2 q hq).symm, (b1 q hq).symm⟩, i3⟩⟩
      · cases h
    · cases h
end Go.Wm.Try1
namespace Go.Wm.Try1
open Go Go.Wm Go.Proofs
set_option maxHeartbeats 8000000 in
theorem vo_inner {bd : Code} (hb : bd = bodyAt Tryz.f6 10) (s : State) (cs : List Claim) (vs : List Vol) (l : List Pick) (hl : Small l) (i : Nat) (p : Pick) (hp : l[i]? = some p) (hd : ∀ (k : Nat) (q : Pick), k < i → l[k]? = some q → q.vol ≠ p.vol ∧ q.claim ≠ p.claim) : ∀ (f j : Nat), j + f = i →
    evLoop E6 0 bd [(1, .d (.sl (l.map Pick.d))), (2, .ptr 0 0), (5, .ptr 1 0), (7, .d (.int .i64 ((i : Int)))), (8, .d (.int .i64 ((j : Int))))] [.box [.d (.sl (s.pods.map Pod.d)), .d (.sl (s.nodes.map Node.d)), .d (.sl (s.vols.map Vol.d)), .d (.sl (s.claims.map Claim.d)), .d (.sl (s.classes.map Class.d)), .d (.sl (s.budgets.map Budget.d))], .box [.sl 2 0 s.pods.length, .sl 3 0 s.nodes.length, .sl 4 0 vs.length, .sl 5 0 cs.length, .sl 6 0 s.classes.length, .sl 7 0 s.budgets.length], .row 33 16 ((s.pods).map Pod.d), .row 36 9 ((s.nodes).map Node.d), .row 48 5 ((vs).map Vol.d), .row 61 4 ((cs).map Claim.d), .row 71 2 ((s.classes).map Class.d), .row 78 3 ((s.budgets).map Budget.d)] = some ([(1, .d (.sl (l.map Pick.d))), (2, .ptr 0 0), (5, .ptr 1 0), (7, .d (.int .i64 ((i : Int)))), (8, .d (.int .i64 ((i : Int)))), (32, .d (.bool false))], [.box [.d (.sl (s.pods.map Pod.d)), .d (.sl (s.nodes.map Node.d)), .d (.sl (s.vols.map Vol.d)), .d (.sl (s.claims.map Claim.d)), .d (.sl (s.classes.map Class.d)), .d (.sl (s.budgets.map Budget.d))], .box [.sl 2 0 s.pods.length, .sl 3 0 s.nodes.length, .sl 4 0 vs.length, .sl 5 0 cs.length, .sl 6 0 s.classes.length, .sl 7 0 s.budgets.length], .row 33 16 ((s.pods).map Pod.d), .row 36 9 ((s.nodes).map Node.d), .row 48 5 ((vs).map Vol.d), .row 61 4 ((cs).map Claim.d), .row 71 2 ((s.classes).map Class.d), .row 78 3 ((s.budgets).map Budget.d)], .exit 2) := by
  simp only [bodyAt, bodyOf, loop_seq, loop_cond, loop_block, loop_loop, loop_region, loop_skip, loop_ret, loop_exit, orE_some, orE_none, Code.first, Option.getD_some, Nat.reduceEqDiff, ↓reduceIte, Tryz.f6] at hb
  subst hb
  unfold Small at hl
  have hil : i < l.length := (List.getElem?_eq_some_iff.1 hp).1
  have hi : (i : Int) < (l.length : Int) := by omega
  have h0 : (0 : Int) ≤ (i : Int) := by omega
  intro f
  induction f with
  | zero =>
    intro j hk
    have hj : (j : Int) = (i : Int) := by omega
    rw [c_round]
    simp only [u6, Tryz.f6, hj, Int.lt_irrefl, sm, tys, Nat.reduceAdd, Nat.reduceSub, Nat.reduceEqDiff, Nat.reduceLeDiff, Nat.reduceLT, Nat.reduceMul, Nat.reduceBEq, ↓reduceIte, reduceCtorEq, Int.reduceLT, Int.reduceLE, Int.reduceGT, Int.reduceGE, Int.reduceBEq, Int.reduceBNe, Int.reduceEq, Int.reduceNe, Int.reduceAdd, Int.reduceSub, Int.reduceMul, Int.reduceNeg, Int.reduceToNat]
  | succ f ih =>
    intro j hk
    have hji : (j : Int) < (i : Int) := by omega
    have hjl : (j : Int) < (l.length : Int) := by omega
    have hj0 : (0 : Int) ≤ (j : Int) := by omega
    have hlt : j < l.length := by omega
    have hq : l[j]? = some l[j] := by simp [hlt]
    generalize l[j] = q at hq
    obtain ⟨n1, n2⟩ := hd j q (by omega) hq
    have n1' : ¬ p.vol = q.vol := fun e => n1 e.symm
    have n2' : ¬ p.claim = q.claim := fun e => n2 e.symm
    have hw : IntKind.i64.wrap ((j : Int) + 1) = ((j + 1 : Nat) : Int) := by rw [wrap_i64 (by omega) (by omega)]; omega
    rw [← ih (j + 1) (by omega), c_round]
    simp only [u6, Tryz.f6, hi, h0, hp, hq, hji, hjl, hj0, n1', n2', hw, Pick.d, sm, tys, Nat.reduceAdd, Nat.reduceSub, Nat.reduceEqDiff, Nat.reduceLeDiff, Nat.reduceLT, Nat.reduceMul, Nat.reduceBEq, ↓reduceIte, reduceCtorEq, Int.reduceLT, Int.reduceLE, Int.reduceGT, Int.reduceGE, Int.reduceBEq, Int.reduceBNe, Int.reduceEq, Int.reduceNe, Int.reduceAdd, Int.reduceSub, Int.reduceMul, Int.reduceNeg, Int.reduceToNat]
set_option maxHeartbeats 8000000 in
theorem vo_outer {bd : Code} (hb : bd = bodyAt Tryz.f6 7) (s : State) (cs : List Claim) (vs : List Vol) (l : List Pick) (hl : Small l) (hd : l.Pairwise fun a b => a.vol ≠ b.vol ∧ a.claim ≠ b.claim) : ∀ (k i : Nat), i + k = l.length →
    evLoop E6 0 bd [(1, .d (.sl (l.map Pick.d))), (2, .ptr 0 0), (5, .ptr 1 0), (7, .d (.int .i64 ((i : Int))))] [.box [.d (.sl (s.pods.map Pod.d)), .d (.sl (s.nodes.map Node.d)), .d (.sl (s.vols.map Vol.d)), .d (.sl (s.claims.map Claim.d)), .d (.sl (s.classes.map Class.d)), .d (.sl (s.budgets.map Budget.d))], .box [.sl 2 0 s.pods.length, .sl 3 0 s.nodes.length, .sl 4 0 vs.length, .sl 5 0 cs.length, .sl 6 0 s.classes.length, .sl 7 0 s.budgets.length], .row 33 16 ((s.pods).map Pod.d), .row 36 9 ((s.nodes).map Node.d), .row 48 5 ((vs).map Vol.d), .row 61 4 ((cs).map Claim.d), .row 71 2 ((s.classes).map Class.d), .row 78 3 ((s.budgets).map Budget.d)] = some ([(1, .d (.sl (l.map Pick.d))), (2, .ptr 0 0), (5, .ptr 1 0), (7, .d (.int .i64 (l.length))), (27, .d (.bool false))], [.box [.d (.sl (s.pods.map Pod.d)), .d (.sl (s.nodes.map Node.d)), .d (.sl (s.vols.map Vol.d)), .d (.sl (s.claims.map Claim.d)), .d (.sl (s.classes.map Class.d)), .d (.sl (s.budgets.map Budget.d))], .box [.sl 2 0 s.pods.length, .sl 3 0 s.nodes.length, .sl 4 0 vs.length, .sl 5 0 cs.length, .sl 6 0 s.classes.length, .sl 7 0 s.budgets.length], .row 33 16 ((s.pods).map Pod.d), .row 36 9 ((s.nodes).map Node.d), .row 48 5 ((vs).map Vol.d), .row 61 4 ((cs).map Claim.d), .row 71 2 ((s.classes).map Class.d), .row 78 3 ((s.budgets).map Budget.d)], .exit 0) := by
  have hin := fun (i : Nat) (p : Pick) (hp : l[i]? = some p) => vo_inner (bd := bodyAt Tryz.f6 10) rfl s cs vs l hl i p hp (fun k q hk hq => by
    obtain ⟨hi, hpe⟩ := List.getElem?_eq_some_iff.1 hp
    obtain ⟨hk2, hqe⟩ := List.getElem?_eq_some_iff.1 hq
    have := List.pairwise_iff_getElem.1 hd k i hk2 hi hk
    rw [hpe, hqe] at this
    exact this) i 0 (by omega)
  simp only [bodyAt, bodyOf, loop_seq, loop_cond, loop_block, loop_loop, loop_region, loop_skip, loop_ret, loop_exit, orE_some, orE_none, Code.first, Option.getD_some, Nat.reduceEqDiff, ↓reduceIte, Tryz.f6] at hb hin
  simp only [Int.cast_ofNat_Int] at hin
  subst hb
  unfold Small at hl
  intro k
  induction k with
  | zero =>
    intro i hk
    have hi : (i : Int) = (l.length : Int) := by omega
    rw [c_round]
    simp only [u6, Tryz.f6, hi, Int.lt_irrefl, sm, tys, Nat.reduceAdd, Nat.reduceSub, Nat.reduceEqDiff, Nat.reduceLeDiff, Nat.reduceLT, Nat.reduceMul, Nat.reduceBEq, ↓reduceIte, reduceCtorEq, Int.reduceLT, Int.reduceLE, Int.reduceGT, Int.reduceGE, Int.reduceBEq, Int.reduceBNe, Int.reduceEq, Int.reduceNe, Int.reduceAdd, Int.reduceSub, Int.reduceMul, Int.reduceNeg, Int.reduceToNat]
  | succ k ih =>
    intro i hk
    have hi : (i : Int) < (l.length : Int) := by omega
    have h0 : (0 : Int) ≤ (i : Int) := by omega
    have hlt : i < l.length := by omega
    have hp : l[i]? = some l[i] := by simp [hlt]
    have hq := hin i l[i] hp
    have hw : IntKind.i64.wrap ((i : Int) + 1) = ((i + 1 : Nat) : Int) := by rw [wrap_i64 (by omega) (by omega)]; omega
    rw [← ih (i + 1) (by omega), c_round]
    simp only [u6, Tryz.f6, hi, h0, hq, hw, sm, tys, Nat.reduceAdd, Nat.reduceSub, Nat.reduceEqDiff, Nat.reduceLeDiff, Nat.reduceLT, Nat.reduceMul, Nat.reduceBEq, ↓reduceIte, reduceCtorEq, Int.reduceLT, Int.reduceLE, Int.reduceGT, Int.reduceGE, Int.reduceBEq, Int.reduceBNe, Int.reduceEq, Int.reduceNe, Int.reduceAdd, Int.reduceSub, Int.reduceMul, Int.reduceNeg, Int.reduceToNat]
set_option maxHeartbeats 8000000 in
theorem free_rloop {bd : Code} (hb : bd = bodyAt Tryz.f17 3) (s : State) (hl : Small s.vols) : ∀ (k i : Nat) (out : List Str), i + k = s.vols.length → out.length ≤ i →
    evLoop E17 6 bd [(3, .own 6 (out.map strD)), (7, .sl 2 0 s.vols.length), (8, .d (.int .i64 (s.vols.length))), (9, .d (.int .i64 ((i : Int))))] [.row 33 16 (((s).pods).map Pod.d), .row 36 9 (((s).nodes).map Node.d), .row 48 5 (((s).vols).map Vol.d), .row 61 4 (((s).claims).map Claim.d), .row 71 2 (((s).classes).map Class.d), .row 78 3 (((s).budgets).map Budget.d), .tok 9 out.length 1] = some ([(3, .own 6 ((out ++ freeL (s.vols.drop i)).map strD)), (7, .sl 2 0 s.vols.length), (8, .d (.int .i64 (s.vols.length))), (9, .d (.int .i64 (s.vols.length))), (10, .d (.bool false))], [.row 33 16 (((s).pods).map Pod.d), .row 36 9 (((s).nodes).map Node.d), .row 48 5 (((s).vols).map Vol.d), .row 61 4 (((s).claims).map Claim.d), .row 71 2 (((s).classes).map Class.d), .row 78 3 (((s).budgets).map Budget.d), .tok 9 (out ++ freeL (s.vols.drop i)).length 1], .exit 0) := by
  simp only [bodyAt, bodyOf, loop_seq, loop_cond, loop_block, loop_loop, loop_region, loop_skip, loop_ret, loop_exit, orE_some, orE_none, Code.first, Option.getD_some, Nat.reduceEqDiff, ↓reduceIte, Tryz.f17] at hb
  subst hb
  unfold Small at hl
  intro k
  induction k with
  | zero =>
    intro i out hk ho
    have hi : (i : Int) = (s.vols.length : Int) := by omega
    have hd : s.vols.drop i = [] := by rw [List.drop_eq_nil_iff]; omega
    have e : out ++ freeL (s.vols.drop i) = out := by rw [hd]; simp [freeL]
    rw [c_round, e]
    simp only [u17, Tryz.f17, hi, Int.lt_irrefl, sm, tys, Nat.reduceAdd, Nat.reduceSub, Nat.reduceEqDiff, Nat.reduceLeDiff, Nat.reduceLT, Nat.reduceMul, Nat.reduceBEq, ↓reduceIte, reduceCtorEq, Int.reduceLT, Int.reduceLE, Int.reduceGT, Int.reduceGE, Int.reduceBEq, Int.reduceBNe, Int.reduceEq, Int.reduceNe, Int.reduceAdd, Int.reduceSub, Int.reduceMul, Int.reduceNeg, Int.reduceToNat]
  | succ k ih =>
    intro i out hk ho
    have hi : (i : Int) < (s.vols.length : Int) := by omega
    have h0 : 0 ≤ (i : Int) := by omega
    have hlt : i < s.vols.length := by omega
    have hci : s.vols[i]? = some s.vols[i] := by simp [hlt]
    have hd : s.vols.drop i = s.vols[i] :: s.vols.drop (i + 1) := List.drop_eq_getElem_cons hlt
    generalize s.vols[i] = c at hci hd
    have hw : IntKind.i64.wrap ((i : Int) + 1) = ((i + 1 : Nat) : Int) := by rw [wrap_i64 (by omega) (by omega)]; omega
    have hol : out.length + 1 ≤ 2147483648 := by omega
    by_cases e1 : c.claim = []
    · have e : out ++ freeL (s.vols.drop i) = (out ++ [c.name]) ++ freeL (s.vols.drop (i + 1)) := by rw [hd]; simp [freeL, e1]
      have hih := ih (i + 1) (out ++ [c.name]) (by omega) (by simp; omega)
      rw [e]
      generalize freeL (s.vols.drop (i + 1)) = fl at *
      have k1 : ((out ++ [c.name]).map strD) = out.map strD ++ [D.str c.name] := by simp [strD]
      have k2 : (out ++ [c.name]).length = out.length + 1 := by simp
      rw [k1, k2] at hih
      rw [← hih, c_round]
      simp only [u17, Tryz.f17, hi, h0, hci, hw, hol, e1, Vol.d, sm, tys, Nat.reduceAdd, Nat.reduceSub, Nat.reduceEqDiff, Nat.reduceLeDiff, Nat.reduceLT, Nat.reduceMul, Nat.reduceBEq, ↓reduceIte, reduceCtorEq, Int.reduceLT, Int.reduceLE, Int.reduceGT, Int.reduceGE, Int.reduceBEq, Int.reduceBNe, Int.reduceEq, Int.reduceNe, Int.reduceAdd, Int.reduceSub, Int.reduceMul, Int.reduceNeg, Int.reduceToNat]
    · have e : out ++ freeL (s.vols.drop i) = out ++ freeL (s.vols.drop (i + 1)) := by rw [hd]; simp [freeL, e1]
      rw [e, ← ih (i + 1) out (by omega) (by omega), c_round]
      simp only [u17, Tryz.f17, hi, h0, hci, hw, e1, Vol.d, sm, tys, Nat.reduceAdd, Nat.reduceSub, Nat.reduceEqDiff, Nat.reduceLeDiff, Nat.reduceLT, Nat.reduceMul, Nat.reduceBEq, ↓reduceIte, reduceCtorEq, Int.reduceLT, Int.reduceLE, Int.reduceGT, Int.reduceGE, Int.reduceBEq, Int.reduceBNe, Int.reduceEq, Int.reduceNe, Int.reduceAdd, Int.reduceSub, Int.reduceMul, Int.reduceNeg, Int.reduceToNat]
theorem free_rows (s : State) (h : Small s.vols) : v17 [.agg [.sl 0 0 (s).pods.length, .sl 1 0 (s).nodes.length, .sl 2 0 (s).vols.length, .sl 3 0 (s).claims.length, .sl 4 0 (s).classes.length, .sl 5 0 (s).budgets.length]] [.row 33 16 (((s).pods).map Pod.d), .row 36 9 (((s).nodes).map Node.d), .row 48 5 (((s).vols).map Vol.d), .row 61 4 (((s).claims).map Claim.d), .row 71 2 (((s).classes).map Class.d), .row 78 3 (((s).budgets).map Budget.d)] = some (.d (.sl ((freeL s.vols).map strD)), [.row 33 16 (((s).pods).map Pod.d), .row 36 9 (((s).nodes).map Node.d), .row 48 5 (((s).vols).map Vol.d), .row 61 4 (((s).claims).map Claim.d), .row 71 2 (((s).classes).map Class.d), .row 78 3 (((s).budgets).map Budget.d)]) := by
  have l1 := free_rloop (bd := bodyAt Tryz.f17 3) rfl s h s.vols.length 0 [] (by omega) (by simp)
  rw [List.drop_zero] at l1
  simp only [bodyAt, bodyOf, loop_seq, loop_cond, loop_block, loop_loop, loop_region, loop_skip, loop_ret, loop_exit, orE_some, orE_none, Code.first, Option.getD_some, Nat.reduceEqDiff, ↓reduceIte, Tryz.f17] at l1
  simp only [Int.cast_ofNat_Int, List.map_nil, List.length_nil, List.nil_append] at l1
  generalize freeL s.vols = fl at *
  have ht := List.take_length (l := fl.map strD)
  rw [List.length_map] at ht
  simp only [u17, Tryz.f17, l1, ht, sm, tys, Nat.reduceAdd, Nat.reduceSub, Nat.reduceEqDiff, Nat.reduceLeDiff, Nat.reduceLT, Nat.reduceMul, Nat.reduceBEq, ↓reduceIte, reduceCtorEq, Int.reduceLT, Int.reduceLE, Int.reduceGT, Int.reduceGE, Int.reduceBEq, Int.reduceBNe, Int.reduceEq, Int.reduceNe, Int.reduceAdd, Int.reduceSub, Int.reduceMul, Int.reduceNeg, Int.reduceToNat]
set_option maxHeartbeats 8000000 in
theorem volOnce_eq (s : State) (hs : s.small) (l : List Pick) (hl : Small l) : v6 [.d s.d, .d (.sl (l.map Pick.d))] [] = some (.d (.bool true), []) := by
  have hw := works_eq
  have ho := once_eq s hs.2.2.2.1 hs.2.2.1
  have ha := apply_eq s hs l hl
  cases e2 : eachL doApply l s.claims s.vols with
  | inr e =>
    rw [e2] at ha
    simp only at ha
    have he : ¬ e = 0 := by rcases eachL_err _ _ _ _ _ e2 with h | h <;> omega
    simp only [State.d, State.cs] at ho ha
    simp only [u6, Tryz.f6, State.d, State.cs, hw, ho, ha, he, sm, tys, Nat.reduceAdd, Nat.reduceSub, Nat.reduceEqDiff, Nat.reduceLeDiff, Nat.reduceLT, Nat.reduceMul, Nat.reduceBEq, ↓reduceIte, reduceCtorEq, Int.reduceLT, Int.reduceLE, Int.reduceGT, Int.reduceGE, Int.reduceBEq, Int.reduceBNe, Int.reduceEq, Int.reduceNe, Int.reduceAdd, Int.reduceSub, Int.reduceMul, Int.reduceNeg, Int.reduceToNat]
  | inl q =>
    obtain ⟨cs, vs⟩ := q
    rw [e2] at ha
    simp only at ha
    cases e1 : s.once with
    | false =>
      rw [e1] at ho
      simp only [State.d, State.cs, State.put] at ho ha
      simp only [u6, Tryz.f6, State.d, State.cs, hw, ho, ha, sm, tys, Nat.reduceAdd, Nat.reduceSub, Nat.reduceEqDiff, Nat.reduceLeDiff, Nat.reduceLT, Nat.reduceMul, Nat.reduceBEq, ↓reduceIte, reduceCtorEq, Int.reduceLT, Int.reduceLE, Int.reduceGT, Int.reduceGE, Int.reduceBEq, Int.reduceBNe, Int.reduceEq, Int.reduceNe, Int.reduceAdd, Int.reduceSub, Int.reduceMul, Int.reduceNeg, Int.reduceToNat]
    | true =>
      rw [e1] at ho
      obtain ⟨a1, a2, a3⟩ := once_all l s.claims s.vols cs vs (once_good s e1) e2
      obtain ⟨q1, q2⟩ := eachL_len _ _ _ _ _ _ e2
      have hs2 := put_small s hs cs vs q1 q2
      have hout := vo_outer (bd := bodyAt Tryz.f6 7) rfl s cs vs l hl a3 l.length 0 (by omega)
      have c1 := check_eq s hs.2.2.2.1 hs.2.2.1
      have c2 := check_eq (s.put cs vs) hs2.2.2.2.1 hs2.2.2.1
      have f1 := free_eq s hs.2.2.1
      have f2 := free_rows (s.put cs vs) hs2.2.2.1
      have em : (s.put cs vs).mis = s.mis := a1
      rw [em] at c2
      have ev : (s.put cs vs).vols = vs := rfl
      rw [ev] at f2
      have ll : (freeL vs).length ≤ 1073741824 := by
        have := hs2.2.2.1
        unfold Small at this
        have h2 : (freeL vs).length ≤ vs.length := by rw [free_len]; exact List.countP_le_length
        have h3 : (s.put cs vs).vols.length = vs.length := rfl
        omega
      have lll : l.length ≤ 1073741824 := hl
      have hsub : IntKind.i64.wrap (((freeL s.vols).length : Int) - (l.length : Int)) = ((freeL vs).length : Int) := by rw [wrap_i64 (by omega) (by omega)]; omega
      have t1 := List.take_length (l := s.pods.map Pod.d)
      have t2 := List.take_length (l := s.nodes.map Node.d)
      have t5 := List.take_length (l := s.classes.map Class.d)
      have t6 := List.take_length (l := s.budgets.map Budget.d)
      have t7 := List.take_length (l := vs.map Vol.d)
      have t8 := List.take_length (l := cs.map Claim.d)
      rw [List.length_map] at t1 t2 t5 t6 t7 t8
      have hmm : (s.mis : Int) ≤ (s.mis : Int) := Int.le_refl _
      generalize s.mis = mm at *
      generalize freeL vs = fl2 at *
      generalize freeL s.vols = fl1 at *
      simp only [bodyAt, bodyOf, loop_seq, loop_cond, loop_block, loop_loop, loop_region, loop_skip, loop_ret, loop_exit, orE_some, orE_none, Code.first, Option.getD_some, Nat.reduceEqDiff, ↓reduceIte, Tryz.f6] at hout
      simp only [Int.cast_ofNat_Int] at hout
      simp only [State.d, State.cs, State.put] at ho ha c1 c2 f1 f2
      simp only [u6, Tryz.f6, State.d, State.cs, hw, ho, ha, hout, c1, c2, f1, f2, t1, t2, t5, t6, t7, t8, hmm, hsub, sm, tys, Nat.reduceAdd, Nat.reduceSub, Nat.reduceEqDiff, Nat.reduceLeDiff, Nat.reduceLT, Nat.reduceMul, Nat.reduceBEq, ↓reduceIte, reduceCtorEq, Int.reduceLT, Int.reduceLE, Int.reduceGT, Int.reduceGE, Int.reduceBEq, Int.reduceBNe, Int.reduceEq, Int.reduceNe, Int.reduceAdd, Int.reduceSub, Int.reduceMul, Int.reduceNeg, Int.reduceToNat]
end Go.Wm.Try1
