/-
  A part of the proof: an abstract run of the program, shown to be what the model does, and what it comes to.
-/
import Derived.Test.YthpomdmjckdknaaMC
set_option linter.unusedSectionVars false
set_option linter.unnecessarySimpa false
set_option maxRecDepth 100000
set_option linter.unusedVariables false
set_option linter.unusedSimpArgs false
set_option linter.defProp false
namespace Go.Wm.Try1
open Go Go.Wm Go.Proofs
def Info.free (x : Info) : Res := x.node.give.sub x.used
theorem free_eq (x : Info) : v12 [.d x.d] [] = some (.d x.free.d, []) := by
  have h := minus_eq x.node.give x.used
  simp only [Res.d] at h
  simp only [u12, Try.f12, Info.d, Info.cs, Node.cs, Res.d, Info.free, h, sm, tys, Nat.reduceAdd, Nat.reduceSub, Nat.reduceEqDiff, Nat.reduceLeDiff, Nat.reduceLT, Nat.reduceMul, Nat.reduceBEq, ↓reduceIte, reduceCtorEq, Int.reduceLT, Int.reduceLE, Int.reduceGT, Int.reduceGE, Int.reduceBEq, Int.reduceBNe, Int.reduceEq, Int.reduceNe, Int.reduceAdd, Int.reduceSub, Int.reduceMul, Int.reduceNeg, Int.reduceToNat]
theorem rfree_eq (x : Info) : v13 [.d x.d] [] = some (.d x.free.d, []) := by
  have h := rminus_eq x.node.give x.used
  simp only [Res.d] at h
  simp only [u13, Try.f13, Info.d, Info.cs, Node.cs, Res.d, Info.free, h, sm, tys, Nat.reduceAdd, Nat.reduceSub, Nat.reduceEqDiff, Nat.reduceLeDiff, Nat.reduceLT, Nat.reduceMul, Nat.reduceBEq, ↓reduceIte, reduceCtorEq, Int.reduceLT, Int.reduceLE, Int.reduceGT, Int.reduceGE, Int.reduceBEq, Int.reduceBNe, Int.reduceEq, Int.reduceNe, Int.reduceAdd, Int.reduceSub, Int.reduceMul, Int.reduceNeg, Int.reduceToNat]
def Info.clash (x : Info) (p : Pod) : Bool := decide (∃ y ∈ p.ports, y ∈ x.ports)
theorem rclash_loop {bd : Code} (hb : bd = bodyAt Try.f15 2) (x : Info) (hx : Small x.ports) (p : Pod) (hp : Small p.ports) : ∀ (k i : Nat), i + k = p.ports.length →
    evLoop E15 0 bd [(2, .ptr 0 0), (3, .ptr 1 0), (5, .d (.int .i64 ((i : Int))))] [.box [.d (.str x.node.name), .d (.sl (x.node.labels.map Label.d)), .d (.sl (x.node.taints.map Taint.d)), .d (.bool x.node.off), .d (.int .i64 (x.node.give.cpu)), .d (.int .i64 (x.node.give.mem)), .d (.int .i64 (x.node.give.disk)), .d (.int .i64 (x.node.pods)), .d (.int .i64 (x.node.disks)), .d (.sl (x.names.map strD)), .d (.int .i64 (x.used.cpu)), .d (.int .i64 (x.used.mem)), .d (.int .i64 (x.used.disk)), .d (.sl (x.ports.map intD)), .d (.sl (x.disks.map strD))], .box [.d (.str p.name), .d (.int .i64 (p.prio)), .d (.sl (p.labels.map Label.d)), .d (.int .i64 (p.want.cpu)), .d (.int .i64 (p.want.mem)), .d (.int .i64 (p.want.disk)), .d (.sl (p.bears.map Bear.d)), .d (.sl (p.asks.map Req.d)), .d (.sl (p.prefers.map Prefer.d)), .d (.sl (p.ports.map intD)), .d (.sl (p.near.map Term.d)), .d (.sl (p.apart.map Term.d)), .d (.sl (p.spreads.map Spread.d)), .d (.sl (p.claims.map strD)), .d (.str p.node), .d (.str p.hope)]] = if (∃ y ∈ p.ports.drop i, y ∈ x.ports) then some ([(4, .d (.bool true))], [.box [.d (.str x.node.name), .d (.sl (x.node.labels.map Label.d)), .d (.sl (x.node.taints.map Taint.d)), .d (.bool x.node.off), .d (.int .i64 (x.node.give.cpu)), .d (.int .i64 (x.node.give.mem)), .d (.int .i64 (x.node.give.disk)), .d (.int .i64 (x.node.pods)), .d (.int .i64 (x.node.disks)), .d (.sl (x.names.map strD)), .d (.int .i64 (x.used.cpu)), .d (.int .i64 (x.used.mem)), .d (.int .i64 (x.used.disk)), .d (.sl (x.ports.map intD)), .d (.sl (x.disks.map strD))], .box [.d (.str p.name), .d (.int .i64 (p.prio)), .d (.sl (p.labels.map Label.d)), .d (.int .i64 (p.want.cpu)), .d (.int .i64 (p.want.mem)), .d (.int .i64 (p.want.disk)), .d (.sl (p.bears.map Bear.d)), .d (.sl (p.asks.map Req.d)), .d (.sl (p.prefers.map Prefer.d)), .d (.sl (p.ports.map intD)), .d (.sl (p.near.map Term.d)), .d (.sl (p.apart.map Term.d)), .d (.sl (p.spreads.map Spread.d)), .d (.sl (p.claims.map strD)), .d (.str p.node), .d (.str p.hope)]], .ret) else some ([(2, .ptr 0 0), (3, .ptr 1 0), (5, .d (.int .i64 (p.ports.length))), (10, .d (.bool false))], [.box [.d (.str x.node.name), .d (.sl (x.node.labels.map Label.d)), .d (.sl (x.node.taints.map Taint.d)), .d (.bool x.node.off), .d (.int .i64 (x.node.give.cpu)), .d (.int .i64 (x.node.give.mem)), .d (.int .i64 (x.node.give.disk)), .d (.int .i64 (x.node.pods)), .d (.int .i64 (x.node.disks)), .d (.sl (x.names.map strD)), .d (.int .i64 (x.used.cpu)), .d (.int .i64 (x.used.mem)), .d (.int .i64 (x.used.disk)), .d (.sl (x.ports.map intD)), .d (.sl (x.disks.map strD))], .box [.d (.str p.name), .d (.int .i64 (p.prio)), .d (.sl (p.labels.map Label.d)), .d (.int .i64 (p.want.cpu)), .d (.int .i64 (p.want.mem)), .d (.int .i64 (p.want.disk)), .d (.sl (p.bears.map Bear.d)), .d (.sl (p.asks.map Req.d)), .d (.sl (p.prefers.map Prefer.d)), .d (.sl (p.ports.map intD)), .d (.sl (p.near.map Term.d)), .d (.sl (p.apart.map Term.d)), .d (.sl (p.spreads.map Spread.d)), .d (.sl (p.claims.map strD)), .d (.str p.node), .d (.str p.hope)]], .exit 0) := by
  simp only [bodyAt, bodyOf, loop_seq, loop_cond, loop_block, loop_loop, loop_region, loop_skip, loop_ret, loop_exit, orE_some, orE_none, Code.first, Option.getD_some, Nat.reduceEqDiff, ↓reduceIte, Try.f15] at hb
  subst hb
  unfold Small at hp
  intro k
  induction k with
  | zero =>
    intro i hk
    have hi : (i : Int) = (p.ports.length : Int) := by omega
    have hd : p.ports.drop i = [] := by rw [List.drop_eq_nil_iff]; omega
    rw [c_round, hd, if_neg (by simp)]
    simp only [u15, Try.f15, hi, Int.lt_irrefl, sm, tys, Nat.reduceAdd, Nat.reduceSub, Nat.reduceEqDiff, Nat.reduceLeDiff, Nat.reduceLT, Nat.reduceMul, Nat.reduceBEq, ↓reduceIte, reduceCtorEq, Int.reduceLT, Int.reduceLE, Int.reduceGT, Int.reduceGE, Int.reduceBEq, Int.reduceBNe, Int.reduceEq, Int.reduceNe, Int.reduceAdd, Int.reduceSub, Int.reduceMul, Int.reduceNeg, Int.reduceToNat]
  | succ k ih =>
    intro i hk
    have hi : (i : Int) < (p.ports.length : Int) := by omega
    have h0 : 0 ≤ (i : Int) := by omega
    have hlt : i < p.ports.length := by omega
    have hci : p.ports[i]? = some p.ports[i] := by simp [hlt]
    have hd : p.ports.drop i = p.ports[i] :: p.ports.drop (i + 1) := List.drop_eq_getElem_cons hlt
    generalize p.ports[i] = c at hci hd
    have hw : IntKind.i64.wrap ((i : Int) + 1) = ((i + 1 : Nat) : Int) := by rw [wrap_i64 (by omega) (by omega)]; omega
    have hh := hasInt_eq x.ports hx c
    by_cases e : c ∈ x.ports
    · rw [hd, if_pos ⟨c, by simp, e⟩, c_round]
      simp only [e, decide_true] at hh
      simp only [u15, Try.f15, hi, h0, hci, hh, intD, sm, tys, Nat.reduceAdd, Nat.reduceSub, Nat.reduceEqDiff, Nat.reduceLeDiff, Nat.reduceLT, Nat.reduceMul, Nat.reduceBEq, ↓reduceIte, reduceCtorEq, Int.reduceLT, Int.reduceLE, Int.reduceGT, Int.reduceGE, Int.reduceBEq, Int.reduceBNe, Int.reduceEq, Int.reduceNe, Int.reduceAdd, Int.reduceSub, Int.reduceMul, Int.reduceNeg, Int.reduceToNat]
    · have : (∃ y ∈ c :: p.ports.drop (i + 1), y ∈ x.ports) ↔ (∃ y ∈ p.ports.drop (i + 1), y ∈ x.ports) := by simp [e]
      rw [hd]
      simp only [this]
      simp only [e, decide_false] at hh
      rw [← ih (i + 1) (by omega), c_round]
      simp only [u15, Try.f15, hi, h0, hci, hh, hw, intD, sm, tys, Nat.reduceAdd, Nat.reduceSub, Nat.reduceEqDiff, Nat.reduceLeDiff, Nat.reduceLT, Nat.reduceMul, Nat.reduceBEq, ↓reduceIte, reduceCtorEq, Int.reduceLT, Int.reduceLE, Int.reduceGT, Int.reduceGE, Int.reduceBEq, Int.reduceBNe, Int.reduceEq, Int.reduceNe, Int.reduceAdd, Int.reduceSub, Int.reduceMul, Int.reduceNeg, Int.reduceToNat]
theorem rclash_eq (x : Info) (hx : Small x.ports) (p : Pod) (hp : Small p.ports) : v15 [.d x.d, .d p.d] [] = some (.d (.bool (x.clash p)), []) := by
  have h := rclash_loop (bd := bodyAt Try.f15 2) rfl x hx p hp p.ports.length 0 (by omega)
  rw [List.drop_zero] at h
  simp only [bodyAt, bodyOf, loop_seq, loop_cond, loop_block, loop_loop, loop_region, loop_skip, loop_ret, loop_exit, orE_some, orE_none, Code.first, Option.getD_some, Nat.reduceEqDiff, ↓reduceIte, Try.f15] at h
  simp only [Int.cast_ofNat_Int] at h
  unfold Info.clash
  by_cases e : ∃ y ∈ p.ports, y ∈ x.ports
  · rw [if_pos e] at h
    simp only [u15, Try.f15, Info.d, Info.cs, Node.cs, Pod.d, Pod.cs, h, e, sm, tys, Nat.reduceAdd, Nat.reduceSub, Nat.reduceEqDiff, Nat.reduceLeDiff, Nat.reduceLT, Nat.reduceMul, Nat.reduceBEq, ↓reduceIte, reduceCtorEq, Int.reduceLT, Int.reduceLE, Int.reduceGT, Int.reduceGE, Int.reduceBEq, Int.reduceBNe, Int.reduceEq, Int.reduceNe, Int.reduceAdd, Int.reduceSub, Int.reduceMul, Int.reduceNeg, Int.reduceToNat]
  · rw [if_neg e] at h
    simp only [u15, Try.f15, Info.d, Info.cs, Node.cs, Pod.d, Pod.cs, h, e, sm, tys, Nat.reduceAdd, Nat.reduceSub, Nat.reduceEqDiff, Nat.reduceLeDiff, Nat.reduceLT, Nat.reduceMul, Nat.reduceBEq, ↓reduceIte, reduceCtorEq, Int.reduceLT, Int.reduceLE, Int.reduceGT, Int.reduceGE, Int.reduceBEq, Int.reduceBNe, Int.reduceEq, Int.reduceNe, Int.reduceAdd, Int.reduceSub, Int.reduceMul, Int.reduceNeg, Int.reduceToNat]
theorem clash1_eq (x : Info) (hx : Small x.ports) (c : Int) : v39 [.d (.int .i64 (c)), .ptr 0 0] [.box [.d (.str x.node.name), .d (.sl (x.node.labels.map Label.d)), .d (.sl (x.node.taints.map Taint.d)), .d (.bool x.node.off), .d (.int .i64 (x.node.give.cpu)), .d (.int .i64 (x.node.give.mem)), .d (.int .i64 (x.node.give.disk)), .d (.int .i64 (x.node.pods)), .d (.int .i64 (x.node.disks)), .d (.sl (x.names.map strD)), .d (.int .i64 (x.used.cpu)), .d (.int .i64 (x.used.mem)), .d (.int .i64 (x.used.disk)), .d (.sl (x.ports.map intD)), .d (.sl (x.disks.map strD))]] = some (.d (.bool (decide (c ∈ x.ports))), [.box [.d (.str x.node.name), .d (.sl (x.node.labels.map Label.d)), .d (.sl (x.node.taints.map Taint.d)), .d (.bool x.node.off), .d (.int .i64 (x.node.give.cpu)), .d (.int .i64 (x.node.give.mem)), .d (.int .i64 (x.node.give.disk)), .d (.int .i64 (x.node.pods)), .d (.int .i64 (x.node.disks)), .d (.sl (x.names.map strD)), .d (.int .i64 (x.used.cpu)), .d (.int .i64 (x.used.mem)), .d (.int .i64 (x.used.disk)), .d (.sl (x.ports.map intD)), .d (.sl (x.disks.map strD))]]) := by
  have h := contains_int x.ports hx c
  simp only [u39, Try.f39, h, sm, tys, Nat.reduceAdd, Nat.reduceSub, Nat.reduceEqDiff, Nat.reduceLeDiff, Nat.reduceLT, Nat.reduceMul, Nat.reduceBEq, ↓reduceIte, reduceCtorEq, Int.reduceLT, Int.reduceLE, Int.reduceGT, Int.reduceGE, Int.reduceBEq, Int.reduceBNe, Int.reduceEq, Int.reduceNe, Int.reduceAdd, Int.reduceSub, Int.reduceMul, Int.reduceNeg, Int.reduceToNat]
theorem clash_loop {bd : Code} (hb : bd = bodyAt Try.f61 2) (x : Info) (hx : Small x.ports) (p : Pod) (hp : Small p.ports) : ∀ (k i : Nat), i + k = p.ports.length →
    ((∃ y ∈ p.ports.drop i, y ∈ x.ports) ∧ ∃ r : Int, 0 ≤ r ∧ evLoop (E61 [(39, v39)]) 1 bd [(0, .d (.sl (p.ports.map intD))), (1, .fn (.func 39) [] [.ptr 0 0]), (7, .d (.int .i64 (p.ports.length))), (8, .d (.int .i64 ((i : Int))))] [.box [.d (.str x.node.name), .d (.sl (x.node.labels.map Label.d)), .d (.sl (x.node.taints.map Taint.d)), .d (.bool x.node.off), .d (.int .i64 (x.node.give.cpu)), .d (.int .i64 (x.node.give.mem)), .d (.int .i64 (x.node.give.disk)), .d (.int .i64 (x.node.pods)), .d (.int .i64 (x.node.disks)), .d (.sl (x.names.map strD)), .d (.int .i64 (x.used.cpu)), .d (.int .i64 (x.used.mem)), .d (.int .i64 (x.used.disk)), .d (.sl (x.ports.map intD)), .d (.sl (x.disks.map strD))]] = some ([(4, .d (.int .i64 (r)))], [.box [.d (.str x.node.name), .d (.sl (x.node.labels.map Label.d)), .d (.sl (x.node.taints.map Taint.d)), .d (.bool x.node.off), .d (.int .i64 (x.node.give.cpu)), .d (.int .i64 (x.node.give.mem)), .d (.int .i64 (x.node.give.disk)), .d (.int .i64 (x.node.pods)), .d (.int .i64 (x.node.disks)), .d (.sl (x.names.map strD)), .d (.int .i64 (x.used.cpu)), .d (.int .i64 (x.used.mem)), .d (.int .i64 (x.used.disk)), .d (.sl (x.ports.map intD)), .d (.sl (x.disks.map strD))]], .ret)) ∨
    (¬ (∃ y ∈ p.ports.drop i, y ∈ x.ports) ∧ evLoop (E61 [(39, v39)]) 1 bd [(0, .d (.sl (p.ports.map intD))), (1, .fn (.func 39) [] [.ptr 0 0]), (7, .d (.int .i64 (p.ports.length))), (8, .d (.int .i64 ((i : Int))))] [.box [.d (.str x.node.name), .d (.sl (x.node.labels.map Label.d)), .d (.sl (x.node.taints.map Taint.d)), .d (.bool x.node.off), .d (.int .i64 (x.node.give.cpu)), .d (.int .i64 (x.node.give.mem)), .d (.int .i64 (x.node.give.disk)), .d (.int .i64 (x.node.pods)), .d (.int .i64 (x.node.disks)), .d (.sl (x.names.map strD)), .d (.int .i64 (x.used.cpu)), .d (.int .i64 (x.used.mem)), .d (.int .i64 (x.used.disk)), .d (.sl (x.ports.map intD)), .d (.sl (x.disks.map strD))]] = some ([(0, .d (.sl (p.ports.map intD))), (1, .fn (.func 39) [] [.ptr 0 0]), (7, .d (.int .i64 (p.ports.length))), (8, .d (.int .i64 (p.ports.length))), (9, .d (.bool false))], [.box [.d (.str x.node.name), .d (.sl (x.node.labels.map Label.d)), .d (.sl (x.node.taints.map Taint.d)), .d (.bool x.node.off), .d (.int .i64 (x.node.give.cpu)), .d (.int .i64 (x.node.give.mem)), .d (.int .i64 (x.node.give.disk)), .d (.int .i64 (x.node.pods)), .d (.int .i64 (x.node.disks)), .d (.sl (x.names.map strD)), .d (.int .i64 (x.used.cpu)), .d (.int .i64 (x.used.mem)), .d (.int .i64 (x.used.disk)), .d (.sl (x.ports.map intD)), .d (.sl (x.disks.map strD))]], .exit 0)) := by
  simp only [bodyAt, bodyOf, loop_seq, loop_cond, loop_block, loop_loop, loop_region, loop_skip, loop_ret, loop_exit, orE_some, orE_none, Code.first, Option.getD_some, Nat.reduceEqDiff, ↓reduceIte, Try.f61] at hb
  subst hb
  unfold Small at hp
  intro k
  induction k with
  | zero =>
    intro i hk
    have hi : (i : Int) = (p.ports.length : Int) := by omega
    have hd : p.ports.drop i = [] := by rw [List.drop_eq_nil_iff]; omega
    rw [c_round, hd]
    refine Or.inr ⟨by simp, ?_⟩
    simp only [u61, Try.f61, hi, Int.lt_irrefl, sm, tys, Nat.reduceAdd, Nat.reduceSub, Nat.reduceEqDiff, Nat.reduceLeDiff, Nat.reduceLT, Nat.reduceMul, Nat.reduceBEq, ↓reduceIte, reduceCtorEq, Int.reduceLT, Int.reduceLE, Int.reduceGT, Int.reduceGE, Int.reduceBEq, Int.reduceBNe, Int.reduceEq, Int.reduceNe, Int.reduceAdd, Int.reduceSub, Int.reduceMul, Int.reduceNeg, Int.reduceToNat]
  | succ k ih =>
    intro i hk
    have hi : (i : Int) < (p.ports.length : Int) := by omega
    have h0 : 0 ≤ (i : Int) := by omega
    have hlt : i < p.ports.length := by omega
    have hci : p.ports[i]? = some p.ports[i] := by simp [hlt]
    have hd : p.ports.drop i = p.ports[i] :: p.ports.drop (i + 1) := List.drop_eq_getElem_cons hlt
    generalize p.ports[i] = c at hci hd
    have hw : IntKind.i64.wrap ((i : Int) + 1) = ((i + 1 : Nat) : Int) := by rw [wrap_i64 (by omega) (by omega)]; omega
    have hh := clash1_eq x hx c
    by_cases e : c ∈ x.ports
    · refine Or.inl ⟨by rw [hd]; exact ⟨c, by simp, e⟩, (i : Int), h0, ?_⟩
      rw [c_round]
      simp only [e, decide_true] at hh
      simp only [u61, Try.f61, hi, h0, hci, hh, intD, sm, tys, Nat.reduceAdd, Nat.reduceSub, Nat.reduceEqDiff, Nat.reduceLeDiff, Nat.reduceLT, Nat.reduceMul, Nat.reduceBEq, ↓reduceIte, reduceCtorEq, Int.reduceLT, Int.reduceLE, Int.reduceGT, Int.reduceGE, Int.reduceBEq, Int.reduceBNe, Int.reduceEq, Int.reduceNe, Int.reduceAdd, Int.reduceSub, Int.reduceMul, Int.reduceNeg, Int.reduceToNat]
    · have : (∃ y ∈ c :: p.ports.drop (i + 1), y ∈ x.ports) ↔ (∃ y ∈ p.ports.drop (i + 1), y ∈ x.ports) := by simp [e]
      rw [hd]
      simp only [this]
      simp only [e, decide_false] at hh
      have hq := ih (i + 1) (by omega)
      rw [c_round]
      simp only [u61, Try.f61, hi, h0, hci, hh, hw, intD, sm, tys, Nat.reduceAdd, Nat.reduceSub, Nat.reduceEqDiff, Nat.reduceLeDiff, Nat.reduceLT, Nat.reduceMul, Nat.reduceBEq, ↓reduceIte, reduceCtorEq, Int.reduceLT, Int.reduceLE, Int.reduceGT, Int.reduceGE, Int.reduceBEq, Int.reduceBNe, Int.reduceEq, Int.reduceNe, Int.reduceAdd, Int.reduceSub, Int.reduceMul, Int.reduceNeg, Int.reduceToNat] at hq ⊢
      exact hq
theorem clash_eq (x : Info) (hx : Small x.ports) (p : Pod) (hp : Small p.ports) : v14 [.d x.d, .d p.d] [] = some (.d (.bool (x.clash p)), []) := by
  have h := clash_loop (bd := bodyAt Try.f61 2) rfl x hx p hp p.ports.length 0 (by omega)
  rw [List.drop_zero] at h
  simp only [bodyAt, bodyOf, loop_seq, loop_cond, loop_block, loop_loop, loop_region, loop_skip, loop_ret, loop_exit, orE_some, orE_none, Code.first, Option.getD_some, Nat.reduceEqDiff, ↓reduceIte, Try.f61] at h
  simp only [Int.cast_ofNat_Int] at h
  unfold Info.clash
  rcases h with ⟨e, r, hr, h⟩ | ⟨e, h⟩
  · simp only [u14, Try.f14, u38, Try.f38, u61, Try.f61, Info.d, Info.cs, Node.cs, Pod.d, Pod.cs, h, hr, e, sm, tys, Nat.reduceAdd, Nat.reduceSub, Nat.reduceEqDiff, Nat.reduceLeDiff, Nat.reduceLT, Nat.reduceMul, Nat.reduceBEq, ↓reduceIte, reduceCtorEq, Int.reduceLT, Int.reduceLE, Int.reduceGT, Int.reduceGE, Int.reduceBEq, Int.reduceBNe, Int.reduceEq, Int.reduceNe, Int.reduceAdd, Int.reduceSub, Int.reduceMul, Int.reduceNeg, Int.reduceToNat]
  · simp only [u14, Try.f14, u38, Try.f38, u61, Try.f61, Info.d, Info.cs, Node.cs, Pod.d, Pod.cs, h, e, sm, tys, Nat.reduceAdd, Nat.reduceSub, Nat.reduceEqDiff, Nat.reduceLeDiff, Nat.reduceLT, Nat.reduceMul, Nat.reduceBEq, ↓reduceIte, reduceCtorEq, Int.reduceLT, Int.reduceLE, Int.reduceGT, Int.reduceGE, Int.reduceBEq, Int.reduceBNe, Int.reduceEq, Int.reduceNe, Int.reduceAdd, Int.reduceSub, Int.reduceMul, Int.reduceNeg, Int.reduceToNat]
end Go.Wm.Try1
namespace Go.Wm.Try1
open Go Go.Wm Go.Proofs
set_option maxHeartbeats 4000000 in
theorem spoil_loop2 {bd : Code} (hb : bd = bodyAt Try.f16 2) (n : Node) (u : Res) (ps : List Int) (ds : List Str) (a b c : Nat) (hN : a ≤ 1073741824) :
    ∀ (k i : Nat) (xs : List Str), i + k = a → xs.length = a →
    ∃ ys : List Str, ys.length = a ∧ evLoop E16 3 bd [(1, .ptr 3 0), (2, .d (.int .i64 ((i : Int))))] [.row 9 1 ((xs).map strD), .row 3 1 ((ps).map intD), .row 9 1 ((ds).map strD), .box [.d (.str n.name), .d (.sl (n.labels.map Label.d)), .d (.sl (n.taints.map Taint.d)), .d (.bool n.off), .d (.int .i64 (n.give.cpu)), .d (.int .i64 (n.give.mem)), .d (.int .i64 (n.give.disk)), .d (.int .i64 (n.pods)), .d (.int .i64 (n.disks)), .sl 0 0 (a), .d (.int .i64 (u.cpu)), .d (.int .i64 (u.mem)), .d (.int .i64 (u.disk)), .sl 1 0 (b), .sl 2 0 (c)]] = some ([(1, .ptr 3 0), (2, .d (.int .i64 ((a : Int)))), (9, .d (.bool false))], [.row 9 1 ((ys).map strD), .row 3 1 ((ps).map intD), .row 9 1 ((ds).map strD), .box [.d (.str n.name), .d (.sl (n.labels.map Label.d)), .d (.sl (n.taints.map Taint.d)), .d (.bool n.off), .d (.int .i64 (n.give.cpu)), .d (.int .i64 (n.give.mem)), .d (.int .i64 (n.give.disk)), .d (.int .i64 (n.pods)), .d (.int .i64 (n.disks)), .sl 0 0 (a), .d (.int .i64 (u.cpu)), .d (.int .i64 (u.mem)), .d (.int .i64 (u.disk)), .sl 1 0 (b), .sl 2 0 (c)]], .exit 0) := by
  simp only [bodyAt, bodyOf, loop_seq, loop_cond, loop_block, loop_loop, loop_region, loop_skip, loop_ret, loop_exit, orE_some, orE_none, Code.first, Option.getD_some, Nat.reduceEqDiff, ↓reduceIte, Try.f16] at hb
  subst hb
  intro k
  induction k with
  | zero =>
    intro i xs hk hx
    refine ⟨xs, hx, ?_⟩
    have hi : (i : Int) = (a : Int) := by omega
    rw [c_round]
    simp only [u16, Try.f16, hi, Int.lt_irrefl, sm, tys, Nat.reduceAdd, Nat.reduceSub, Nat.reduceEqDiff, Nat.reduceLeDiff, Nat.reduceLT, Nat.reduceMul, Nat.reduceBEq, ↓reduceIte, reduceCtorEq, Int.reduceLT, Int.reduceLE, Int.reduceGT, Int.reduceGE, Int.reduceBEq, Int.reduceBNe, Int.reduceEq, Int.reduceNe, Int.reduceAdd, Int.reduceSub, Int.reduceMul, Int.reduceNeg, Int.reduceToNat]
  | succ k ih =>
    intro i xs hk hx
    have hi : (i : Int) < (a : Int) := by omega
    have h0 : 0 ≤ (i : Int) := by omega
    have hlt : i < a := by omega
    have hci : xs[i]? = some xs[i] := by simp [hx, hlt]
    have hw : IntKind.i64.wrap ((i : Int) + 1) = ((i + 1 : Nat) : Int) := by rw [wrap_i64 (by omega) (by omega)]; omega
    have hs : (xs.map strD).set i (D.str [115, 112, 111, 105, 108, 116]) = (xs.set i [115, 112, 111, 105, 108, 116]).map strD := by rw [List.map_set]; rfl
    obtain ⟨ys, h1, h2⟩ := ih (i + 1) (xs.set i [115, 112, 111, 105, 108, 116]) (by omega) (by simpa using hx)
    refine ⟨ys, h1, ?_⟩
    rw [← h2, c_round]
    generalize xs[i] = c at hci
    rw [← hs]
    simp only [u16, Try.f16, hi, h0, hw, hci, strD, sm, tys, Nat.reduceAdd, Nat.reduceSub, Nat.reduceEqDiff, Nat.reduceLeDiff, Nat.reduceLT, Nat.reduceMul, Nat.reduceBEq, ↓reduceIte, reduceCtorEq, Int.reduceLT, Int.reduceLE, Int.reduceGT, Int.reduceGE, Int.reduceBEq, Int.reduceBNe, Int.reduceEq, Int.reduceNe, Int.reduceAdd, Int.reduceSub, Int.reduceMul, Int.reduceNeg, Int.reduceToNat]
set_option maxHeartbeats 4000000 in
theorem spoil_loop6 {bd : Code} (hb : bd = bodyAt Try.f16 6) (n : Node) (u : Res) (ns : List Str) (ds : List Str) (a b c : Nat) (hN : b ≤ 1073741824) :
    ∀ (k i : Nat) (xs : List Int), i + k = b → xs.length = b →
    ∃ ys : List Int, ys.length = b ∧ evLoop E16 3 bd [(1, .ptr 3 0), (3, .d (.int .i64 ((i : Int))))] [.row 9 1 ((ns).map strD), .row 3 1 ((xs).map intD), .row 9 1 ((ds).map strD), .box [.d (.str n.name), .d (.sl (n.labels.map Label.d)), .d (.sl (n.taints.map Taint.d)), .d (.bool n.off), .d (.int .i64 (n.give.cpu)), .d (.int .i64 (n.give.mem)), .d (.int .i64 (n.give.disk)), .d (.int .i64 (n.pods)), .d (.int .i64 (n.disks)), .sl 0 0 (a), .d (.int .i64 (u.cpu)), .d (.int .i64 (u.mem)), .d (.int .i64 (u.disk)), .sl 1 0 (b), .sl 2 0 (c)]] = some ([(1, .ptr 3 0), (3, .d (.int .i64 ((b : Int)))), (20, .d (.bool false))], [.row 9 1 ((ns).map strD), .row 3 1 ((ys).map intD), .row 9 1 ((ds).map strD), .box [.d (.str n.name), .d (.sl (n.labels.map Label.d)), .d (.sl (n.taints.map Taint.d)), .d (.bool n.off), .d (.int .i64 (n.give.cpu)), .d (.int .i64 (n.give.mem)), .d (.int .i64 (n.give.disk)), .d (.int .i64 (n.pods)), .d (.int .i64 (n.disks)), .sl 0 0 (a), .d (.int .i64 (u.cpu)), .d (.int .i64 (u.mem)), .d (.int .i64 (u.disk)), .sl 1 0 (b), .sl 2 0 (c)]], .exit 2) := by
  simp only [bodyAt, bodyOf, loop_seq, loop_cond, loop_block, loop_loop, loop_region, loop_skip, loop_ret, loop_exit, orE_some, orE_none, Code.first, Option.getD_some, Nat.reduceEqDiff, ↓reduceIte, Try.f16] at hb
  subst hb
  intro k
  induction k with
  | zero =>
    intro i xs hk hx
    refine ⟨xs, hx, ?_⟩
    have hi : (i : Int) = (b : Int) := by omega
    rw [c_round]
    simp only [u16, Try.f16, hi, Int.lt_irrefl, sm, tys, Nat.reduceAdd, Nat.reduceSub, Nat.reduceEqDiff, Nat.reduceLeDiff, Nat.reduceLT, Nat.reduceMul, Nat.reduceBEq, ↓reduceIte, reduceCtorEq, Int.reduceLT, Int.reduceLE, Int.reduceGT, Int.reduceGE, Int.reduceBEq, Int.reduceBNe, Int.reduceEq, Int.reduceNe, Int.reduceAdd, Int.reduceSub, Int.reduceMul, Int.reduceNeg, Int.reduceToNat]
  | succ k ih =>
    intro i xs hk hx
    have hi : (i : Int) < (b : Int) := by omega
    have h0 : 0 ≤ (i : Int) := by omega
    have hlt : i < b := by omega
    have hci : xs[i]? = some xs[i] := by simp [hx, hlt]
    have hw : IntKind.i64.wrap ((i : Int) + 1) = ((i + 1 : Nat) : Int) := by rw [wrap_i64 (by omega) (by omega)]; omega
    have hs : (xs.map intD).set i (D.int .i64 (-7)) = (xs.set i (-7)).map intD := by rw [List.map_set]; rfl
    obtain ⟨ys, h1, h2⟩ := ih (i + 1) (xs.set i (-7)) (by omega) (by simpa using hx)
    refine ⟨ys, h1, ?_⟩
    rw [← h2, c_round]
    generalize xs[i] = c at hci
    rw [← hs]
    simp only [u16, Try.f16, hi, h0, hw, hci, intD, sm, tys, Nat.reduceAdd, Nat.reduceSub, Nat.reduceEqDiff, Nat.reduceLeDiff, Nat.reduceLT, Nat.reduceMul, Nat.reduceBEq, ↓reduceIte, reduceCtorEq, Int.reduceLT, Int.reduceLE, Int.reduceGT, Int.reduceGE, Int.reduceBEq, Int.reduceBNe, Int.reduceEq, Int.reduceNe, Int.reduceAdd, Int.reduceSub, Int.reduceMul, Int.reduceNeg, Int.reduceToNat]
set_option maxHeartbeats 4000000 in
theorem spoil_loop10 {bd : Code} (hb : bd = bodyAt Try.f16 10) (n : Node) (u : Res) (ns : List Str) (ps : List Int) (a b c : Nat) (hN : c ≤ 1073741824) :
    ∀ (k i : Nat) (xs : List Str), i + k = c → xs.length = c →
    ∃ ys : List Str, ys.length = c ∧ evLoop E16 3 bd [(1, .ptr 3 0), (4, .d (.int .i64 ((i : Int))))] [.row 9 1 ((ns).map strD), .row 3 1 ((ps).map intD), .row 9 1 ((xs).map strD), .box [.d (.str n.name), .d (.sl (n.labels.map Label.d)), .d (.sl (n.taints.map Taint.d)), .d (.bool n.off), .d (.int .i64 (n.give.cpu)), .d (.int .i64 (n.give.mem)), .d (.int .i64 (n.give.disk)), .d (.int .i64 (n.pods)), .d (.int .i64 (n.disks)), .sl 0 0 (a), .d (.int .i64 (u.cpu)), .d (.int .i64 (u.mem)), .d (.int .i64 (u.disk)), .sl 1 0 (b), .sl 2 0 (c)]] = some ([(1, .ptr 3 0), (4, .d (.int .i64 ((c : Int)))), (31, .d (.bool false))], [.row 9 1 ((ns).map strD), .row 3 1 ((ps).map intD), .row 9 1 ((ys).map strD), .box [.d (.str n.name), .d (.sl (n.labels.map Label.d)), .d (.sl (n.taints.map Taint.d)), .d (.bool n.off), .d (.int .i64 (n.give.cpu)), .d (.int .i64 (n.give.mem)), .d (.int .i64 (n.give.disk)), .d (.int .i64 (n.pods)), .d (.int .i64 (n.disks)), .sl 0 0 (a), .d (.int .i64 (u.cpu)), .d (.int .i64 (u.mem)), .d (.int .i64 (u.disk)), .sl 1 0 (b), .sl 2 0 (c)]], .exit 4) := by
  simp only [bodyAt, bodyOf, loop_seq, loop_cond, loop_block, loop_loop, loop_region, loop_skip, loop_ret, loop_exit, orE_some, orE_none, Code.first, Option.getD_some, Nat.reduceEqDiff, ↓reduceIte, Try.f16] at hb
  subst hb
  intro k
  induction k with
  | zero =>
    intro i xs hk hx
    refine ⟨xs, hx, ?_⟩
    have hi : (i : Int) = (c : Int) := by omega
    rw [c_round]
    simp only [u16, Try.f16, hi, Int.lt_irrefl, sm, tys, Nat.reduceAdd, Nat.reduceSub, Nat.reduceEqDiff, Nat.reduceLeDiff, Nat.reduceLT, Nat.reduceMul, Nat.reduceBEq, ↓reduceIte, reduceCtorEq, Int.reduceLT, Int.reduceLE, Int.reduceGT, Int.reduceGE, Int.reduceBEq, Int.reduceBNe, Int.reduceEq, Int.reduceNe, Int.reduceAdd, Int.reduceSub, Int.reduceMul, Int.reduceNeg, Int.reduceToNat]
  | succ k ih =>
    intro i xs hk hx
    have hi : (i : Int) < (c : Int) := by omega
    have h0 : 0 ≤ (i : Int) := by omega
    have hlt : i < c := by omega
    have hci : xs[i]? = some xs[i] := by simp [hx, hlt]
    have hw : IntKind.i64.wrap ((i : Int) + 1) = ((i + 1 : Nat) : Int) := by rw [wrap_i64 (by omega) (by omega)]; omega
    have hs : (xs.map strD).set i (D.str [115, 112, 111, 105, 108, 116]) = (xs.set i [115, 112, 111, 105, 108, 116]).map strD := by rw [List.map_set]; rfl
    obtain ⟨ys, h1, h2⟩ := ih (i + 1) (xs.set i [115, 112, 111, 105, 108, 116]) (by omega) (by simpa using hx)
    refine ⟨ys, h1, ?_⟩
    rw [← h2, c_round]
    generalize xs[i] = c at hci
    rw [← hs]
    simp only [u16, Try.f16, hi, h0, hw, hci, strD, sm, tys, Nat.reduceAdd, Nat.reduceSub, Nat.reduceEqDiff, Nat.reduceLeDiff, Nat.reduceLT, Nat.reduceMul, Nat.reduceBEq, ↓reduceIte, reduceCtorEq, Int.reduceLT, Int.reduceLE, Int.reduceGT, Int.reduceGE, Int.reduceBEq, Int.reduceBNe, Int.reduceEq, Int.reduceNe, Int.reduceAdd, Int.reduceSub, Int.reduceMul, Int.reduceNeg, Int.reduceToNat]
set_option maxHeartbeats 4000000 in
theorem spoil_eq (n : Node) (u : Res) (ns ds : List Str) (po : List Int) (l1 : Small ns) (l2 : Small po) (l3 : Small ds) :
    ∃ (ns' : List Str) (po' : List Int) (ds' : List Str), ns'.length = ns.length ∧ po'.length = po.length ∧ ds'.length = ds.length ∧ v16 [.agg [.d (.str n.name), .d (.sl (n.labels.map Label.d)), .d (.sl (n.taints.map Taint.d)), .d (.bool n.off), .d (.int .i64 (n.give.cpu)), .d (.int .i64 (n.give.mem)), .d (.int .i64 (n.give.disk)), .d (.int .i64 (n.pods)), .d (.int .i64 (n.disks)), .sl 0 0 ns.length, .d (.int .i64 (u.cpu)), .d (.int .i64 (u.mem)), .d (.int .i64 (u.disk)), .sl 1 0 po.length, .sl 2 0 ds.length]] [.row 9 1 ((ns).map strD), .row 3 1 ((po).map intD), .row 9 1 ((ds).map strD)] = some (.tup [], [.row 9 1 ((ns').map strD), .row 3 1 ((po').map intD), .row 9 1 ((ds').map strD)]) := by
  unfold Small at l1 l2 l3
  obtain ⟨a, a1, a2⟩ := spoil_loop2 (bd := bodyAt Try.f16 2) rfl n u po ds ns.length po.length ds.length l1 ns.length 0 ns (by omega) rfl
  obtain ⟨b, b1, b2⟩ := spoil_loop6 (bd := bodyAt Try.f16 6) rfl n u a ds ns.length po.length ds.length l2 po.length 0 po (by omega) rfl
  obtain ⟨c, c1, c2⟩ := spoil_loop10 (bd := bodyAt Try.f16 10) rfl n u a b ns.length po.length ds.length l3 ds.length 0 ds (by omega) rfl
  refine ⟨a, b, c, a1, b1, c1, ?_⟩
  simp only [bodyAt, bodyOf, loop_seq, loop_cond, loop_block, loop_loop, loop_region, loop_skip, loop_ret, loop_exit, orE_some, orE_none, Code.first, Option.getD_some, Nat.reduceEqDiff, ↓reduceIte, Try.f16] at a2 b2 c2
  simp only [Int.cast_ofNat_Int] at a2 b2 c2
  simp only [u16, Try.f16, a2, b2, c2, sm, tys, Nat.reduceAdd, Nat.reduceSub, Nat.reduceEqDiff, Nat.reduceLeDiff, Nat.reduceLT, Nat.reduceMul, Nat.reduceBEq, ↓reduceIte, reduceCtorEq, Int.reduceLT, Int.reduceLE, Int.reduceGT, Int.reduceGE, Int.reduceBEq, Int.reduceBNe, Int.reduceEq, Int.reduceNe, Int.reduceAdd, Int.reduceSub, Int.reduceMul, Int.reduceNeg, Int.reduceToNat]
end Go.Wm.Try1
namespace Go.Wm.Try1
open Go Go.Wm Go.Proofs
def Pods.all (l : List Pod) : Prop := ∀ p ∈ l, p.ok
def nW : Node := ⟨[110], [], [], false, ⟨4000, 0, 0⟩, 0, 0⟩
def pA : Pod := ⟨[97], 0, [], ⟨1000, 0, 0⟩, [], [], [], [], [], [], [], [], [], []⟩
def pB : Pod := ⟨[98], 0, [], ⟨500, 0, 0⟩, [], [], [], [80], [], [], [], [], [], []⟩
def pC : Pod := ⟨[], 0, [], ⟨0, 0, 0⟩, [], [], [], [9, 80], [], [], [], [], [], []⟩
def iW : Info := ⟨nW, [[97], [98]], ⟨1500, 0, 0⟩, [80], []⟩
theorem of_works : Info.of nW [pA, pB] = iW := rfl
theorem free_works : iW.free = ⟨2500, 0, 0⟩ := rfl
theorem clash_works : iW.clash pC = true := by
  unfold Info.clash
  exact decide_eq_true ⟨80, by decide, by decide⟩
set_option maxHeartbeats 4000000 in
theorem works_eq : v19 [] [] = some (.d (.bool true), []) := by
  have h1 := info_of nW [pA, pB] (by unfold Pods.ok Small; decide)
  rw [of_works] at h1
  have h2 := free_eq iW
  rw [free_works] at h2
  have h3 := clash_eq iW (by unfold Small; decide) pC (by unfold Small; decide)
  rw [clash_works] at h3
  have h4 := sameTexts [[97], [98]] (by decide)
  simp only [iW, nW, pA, pB, pC, Info.d, Info.cs, Node.d, Node.cs, Pod.d, Pod.cs, Res.d, List.map_cons, List.map_nil, List.length_cons, List.length_nil, strD, intD, List.cons_append, List.nil_append] at h1 h2 h3 h4
  simp only [u19, Try.f19, h1, h2, h3, h4, sm, tys, Nat.reduceAdd, Nat.reduceSub, Nat.reduceEqDiff, Nat.reduceLeDiff, Nat.reduceLT, Nat.reduceMul, Nat.reduceBEq, ↓reduceIte, reduceCtorEq, Int.reduceLT, Int.reduceLE, Int.reduceGT, Int.reduceGE, Int.reduceBEq, Int.reduceBNe, Int.reduceEq, Int.reduceNe, Int.reduceAdd, Int.reduceSub, Int.reduceMul, Int.reduceNeg, Int.reduceToNat]
end Go.Wm.Try1
namespace Go.Wm.Try1
open Go Go.Wm Go.Proofs
theorem list_of {α : Type} (k T : Nat) (enc : α → D) (h : ∀ cs, shape ty k T cs → ∃ a, elemT ty T cs = enc a) : ∀ xs : List D, (∀ x ∈ xs, ∃ cs, shape ty k T cs ∧ x = elemT ty T cs) → ∃ l : List α, xs = l.map enc
  | [], _ => ⟨[], rfl⟩
  | x :: r, g => by
    obtain ⟨l, rfl⟩ := list_of k T enc h r fun y hy => g y (List.mem_cons_of_mem _ hy)
    obtain ⟨cs, hc, hx⟩ := g x (by simp)
    obtain ⟨a, ha⟩ := h cs hc
    exact ⟨a :: l, by rw [hx, ha]; rfl⟩
theorem str_of (k : Nat) (cs : List D) (h : shape ty (k + 1) 9 cs) : ∃ a : Str, elemT ty 9 cs = strD a := by
  obtain ⟨a, rfl, _⟩ := shape_str ty_9 rfl h
  exact ⟨a, elemT_one ty_9 rfl⟩
theorem int_of (k : Nat) (cs : List D) (h : shape ty (k + 1) 3 cs) : ∃ a : Int, elemT ty 3 cs = intD a := by
  obtain ⟨a, rfl, _⟩ := shape_int ty_3 rfl h
  exact ⟨a, elemT_one ty_3 rfl⟩
theorem label_cs (k : Nat) (cs : List D) (h : shape ty (k + 2) 99 cs) : ∃ a : Label, cs = [.str a.key, .str a.val] := by
  have hf := shape_st ty_99 rfl h
  obtain ⟨c1, r1, rfl, _, s1, c2, r2, rfl, _, s2, rfl⟩ := hf
  obtain ⟨a1, rfl, _⟩ := shape_str ty_9 rfl s1
  obtain ⟨a2, rfl, _⟩ := shape_str ty_9 rfl s2
  exact ⟨⟨a1, a2⟩, rfl⟩
theorem label_of (k : Nat) (cs : List D) (h : shape ty (k + 2) 99 cs) : ∃ a : Label, elemT ty 99 cs = a.d := by
  obtain ⟨a, rfl⟩ := label_cs k cs h
  exact ⟨a, elemT_agg ty_99 rfl⟩
theorem taint_cs (k : Nat) (cs : List D) (h : shape ty (k + 2) 81 cs) : ∃ a : Taint, cs = [.str a.key, .str a.val, .int .i64 a.effect] := by
  have hf := shape_st ty_81 rfl h
  obtain ⟨c1, r1, rfl, _, s1, c2, r2, rfl, _, s2, c3, r3, rfl, _, s3, rfl⟩ := hf
  obtain ⟨a1, rfl, _⟩ := shape_str ty_9 rfl s1
  obtain ⟨a2, rfl, _⟩ := shape_str ty_9 rfl s2
  obtain ⟨a3, rfl, _⟩ := shape_int ty_3 rfl s3
  exact ⟨⟨a1, a2, a3⟩, rfl⟩
theorem taint_of (k : Nat) (cs : List D) (h : shape ty (k + 2) 81 cs) : ∃ a : Taint, elemT ty 81 cs = a.d := by
  obtain ⟨a, rfl⟩ := taint_cs k cs h
  exact ⟨a, elemT_agg ty_81 rfl⟩
theorem bear_cs (k : Nat) (cs : List D) (h : shape ty (k + 2) 75 cs) : ∃ a : Bear, cs = [.str a.key, .str a.val, .bool a.any, .int .i64 a.effect] := by
  have hf := shape_st ty_75 rfl h
  obtain ⟨c1, r1, rfl, _, s1, c2, r2, rfl, _, s2, c3, r3, rfl, _, s3, c4, r4, rfl, _, s4, rfl⟩ := hf
  obtain ⟨a1, rfl, _⟩ := shape_str ty_9 rfl s1
  obtain ⟨a2, rfl, _⟩ := shape_str ty_9 rfl s2
  obtain ⟨a3, rfl⟩ := shape_bool ty_4 rfl s3
  obtain ⟨a4, rfl, _⟩ := shape_int ty_3 rfl s4
  exact ⟨⟨a1, a2, a3, a4⟩, rfl⟩
theorem bear_of (k : Nat) (cs : List D) (h : shape ty (k + 2) 75 cs) : ∃ a : Bear, elemT ty 75 cs = a.d := by
  obtain ⟨a, rfl⟩ := bear_cs k cs h
  exact ⟨a, elemT_agg ty_75 rfl⟩
theorem req_cs (k : Nat) (cs : List D) (h : shape ty (k + 3) 101 cs) : ∃ a : Req, cs = [.str a.key, .int .i64 a.op, .sl (a.vals.map strD)] := by
  have hf := shape_st ty_101 rfl h
  obtain ⟨c1, r1, rfl, _, s1, c2, r2, rfl, _, s2, c3, r3, rfl, _, s3, rfl⟩ := hf
  obtain ⟨a1, rfl, _⟩ := shape_str ty_9 rfl s1
  obtain ⟨a2, rfl, _⟩ := shape_int ty_3 rfl s2
  obtain ⟨y3, rfl, _, h3⟩ := shape_sl ty_35 rfl s3
  obtain ⟨a3, rfl⟩ := list_of _ _ _ (str_of _) y3 h3
  exact ⟨⟨a1, a2, a3⟩, rfl⟩
theorem req_of (k : Nat) (cs : List D) (h : shape ty (k + 3) 101 cs) : ∃ a : Req, elemT ty 101 cs = a.d := by
  obtain ⟨a, rfl⟩ := req_cs k cs h
  exact ⟨a, elemT_agg ty_101 rfl⟩
theorem prefer_cs (k : Nat) (cs : List D) (h : shape ty (k + 5) 77 cs) : ∃ a : Prefer, cs = [.sl (a.reqs.map Req.d), .int .i64 a.weight] := by
  have hf := shape_st ty_77 rfl h
  obtain ⟨c1, r1, rfl, _, s1, c2, r2, rfl, _, s2, rfl⟩ := hf
  obtain ⟨y1, rfl, _, h1⟩ := shape_sl ty_30 rfl s1
  obtain ⟨a1, rfl⟩ := list_of _ _ _ (req_of _) y1 h1
  obtain ⟨a2, rfl, _⟩ := shape_int ty_3 rfl s2
  exact ⟨⟨a1, a2⟩, rfl⟩
theorem prefer_of (k : Nat) (cs : List D) (h : shape ty (k + 5) 77 cs) : ∃ a : Prefer, elemT ty 77 cs = a.d := by
  obtain ⟨a, rfl⟩ := prefer_cs k cs h
  exact ⟨a, elemT_agg ty_77 rfl⟩
theorem term_cs (k : Nat) (cs : List D) (h : shape ty (k + 5) 103 cs) : ∃ a : Term, cs = [.sl (a.reqs.map Req.d), .str a.key] := by
  have hf := shape_st ty_103 rfl h
  obtain ⟨c1, r1, rfl, _, s1, c2, r2, rfl, _, s2, rfl⟩ := hf
  obtain ⟨y1, rfl, _, h1⟩ := shape_sl ty_30 rfl s1
  obtain ⟨a1, rfl⟩ := list_of _ _ _ (req_of _) y1 h1
  obtain ⟨a2, rfl, _⟩ := shape_str ty_9 rfl s2
  exact ⟨⟨a1, a2⟩, rfl⟩
theorem term_of (k : Nat) (cs : List D) (h : shape ty (k + 5) 103 cs) : ∃ a : Term, elemT ty 103 cs = a.d := by
  obtain ⟨a, rfl⟩ := term_cs k cs h
  exact ⟨a, elemT_agg ty_103 rfl⟩
theorem spread_cs (k : Nat) (cs : List D) (h : shape ty (k + 5) 79 cs) : ∃ a : Spread, cs = [.str a.key, .int .i64 a.skew, .int .i64 a.least, .sl (a.reqs.map Req.d)] := by
  have hf := shape_st ty_79 rfl h
  obtain ⟨c1, r1, rfl, _, s1, c2, r2, rfl, _, s2, c3, r3, rfl, _, s3, c4, r4, rfl, _, s4, rfl⟩ := hf
  obtain ⟨a1, rfl, _⟩ := shape_str ty_9 rfl s1
  obtain ⟨a2, rfl, _⟩ := shape_int ty_3 rfl s2
  obtain ⟨a3, rfl, _⟩ := shape_int ty_3 rfl s3
  obtain ⟨y4, rfl, _, h4⟩ := shape_sl ty_30 rfl s4
  obtain ⟨a4, rfl⟩ := list_of _ _ _ (req_of _) y4 h4
  exact ⟨⟨a1, a2, a3, a4⟩, rfl⟩
theorem spread_of (k : Nat) (cs : List D) (h : shape ty (k + 5) 79 cs) : ∃ a : Spread, elemT ty 79 cs = a.d := by
  obtain ⟨a, rfl⟩ := spread_cs k cs h
  exact ⟨a, elemT_agg ty_79 rfl⟩
theorem res_cs (k : Nat) (cs : List D) (h : shape ty (k + 2) 25 cs) : ∃ a : Res, cs = [.int .i64 a.cpu, .int .i64 a.mem, .int .i64 a.disk] := by
  have hf := shape_st ty_25 rfl h
  obtain ⟨c1, r1, rfl, _, s1, c2, r2, rfl, _, s2, c3, r3, rfl, _, s3, rfl⟩ := hf
  obtain ⟨a1, rfl, _⟩ := shape_int ty_3 rfl s1
  obtain ⟨a2, rfl, _⟩ := shape_int ty_3 rfl s2
  obtain ⟨a3, rfl, _⟩ := shape_int ty_3 rfl s3
  exact ⟨⟨a1, a2, a3⟩, rfl⟩
theorem res_of (k : Nat) (cs : List D) (h : shape ty (k + 2) 25 cs) : ∃ a : Res, elemT ty 25 cs = a.d := by
  obtain ⟨a, rfl⟩ := res_cs k cs h
  exact ⟨a, elemT_agg ty_25 rfl⟩
theorem pod_cs (k : Nat) (cs : List D) (h : shape ty (k + 7) 37 cs) : ∃ a : Pod, cs = a.cs := by
  have hf := shape_st ty_37 rfl h
  obtain ⟨c1, r1, rfl, _, s1, c2, r2, rfl, _, s2, c3, r3, rfl, _, s3, c4, r4, rfl, _, s4, c5, r5, rfl, _, s5, c6, r6, rfl, _, s6, c7, r7, rfl, _, s7, c8, r8, rfl, _, s8, c9, r9, rfl, _, s9, c10, r10, rfl, _, s10, c11, r11, rfl, _, s11, c12, r12, rfl, _, s12, c13, r13, rfl, _, s13, c14, r14, rfl, _, s14, rfl⟩ := hf
  obtain ⟨a1, rfl, _⟩ := shape_str ty_9 rfl s1
  obtain ⟨a2, rfl, _⟩ := shape_int ty_3 rfl s2
  obtain ⟨y3, rfl, _, h3⟩ := shape_sl ty_22 rfl s3
  obtain ⟨a3, rfl⟩ := list_of _ _ _ (label_of _) y3 h3
  obtain ⟨u4, rfl⟩ := res_cs _ _ s4
  obtain ⟨y5, rfl, _, h5⟩ := shape_sl ty_29 rfl s5
  obtain ⟨a5, rfl⟩ := list_of _ _ _ (bear_of _) y5 h5
  obtain ⟨y6, rfl, _, h6⟩ := shape_sl ty_30 rfl s6
  obtain ⟨a6, rfl⟩ := list_of _ _ _ (req_of _) y6 h6
  obtain ⟨y7, rfl, _, h7⟩ := shape_sl ty_31 rfl s7
  obtain ⟨a7, rfl⟩ := list_of _ _ _ (prefer_of _) y7 h7
  obtain ⟨y8, rfl, _, h8⟩ := shape_sl ty_32 rfl s8
  obtain ⟨a8, rfl⟩ := list_of _ _ _ (int_of _) y8 h8
  obtain ⟨y9, rfl, _, h9⟩ := shape_sl ty_33 rfl s9
  obtain ⟨a9, rfl⟩ := list_of _ _ _ (term_of _) y9 h9
  obtain ⟨y10, rfl, _, h10⟩ := shape_sl ty_33 rfl s10
  obtain ⟨a10, rfl⟩ := list_of _ _ _ (term_of _) y10 h10
  obtain ⟨y11, rfl, _, h11⟩ := shape_sl ty_34 rfl s11
  obtain ⟨a11, rfl⟩ := list_of _ _ _ (spread_of _) y11 h11
  obtain ⟨y12, rfl, _, h12⟩ := shape_sl ty_35 rfl s12
  obtain ⟨a12, rfl⟩ := list_of _ _ _ (str_of _) y12 h12
  obtain ⟨a13, rfl, _⟩ := shape_str ty_9 rfl s13
  obtain ⟨a14, rfl, _⟩ := shape_str ty_9 rfl s14
  exact ⟨⟨a1, a2, a3, u4, a5, a6, a7, a8, a9, a10, a11, a12, a13, a14⟩, rfl⟩
theorem pod_of (k : Nat) (cs : List D) (h : shape ty (k + 7) 37 cs) : ∃ a : Pod, elemT ty 37 cs = a.d := by
  obtain ⟨a, rfl⟩ := pod_cs k cs h
  exact ⟨a, elemT_agg ty_37 rfl⟩
theorem node_cs (k : Nat) (cs : List D) (h : shape ty (k + 4) 27 cs) : ∃ a : Node, cs = a.cs := by
  have hf := shape_st ty_27 rfl h
  obtain ⟨c1, r1, rfl, _, s1, c2, r2, rfl, _, s2, c3, r3, rfl, _, s3, c4, r4, rfl, _, s4, c5, r5, rfl, _, s5, c6, r6, rfl, _, s6, c7, r7, rfl, _, s7, rfl⟩ := hf
  obtain ⟨a1, rfl, _⟩ := shape_str ty_9 rfl s1
  obtain ⟨y2, rfl, _, h2⟩ := shape_sl ty_22 rfl s2
  obtain ⟨a2, rfl⟩ := list_of _ _ _ (label_of _) y2 h2
  obtain ⟨y3, rfl, _, h3⟩ := shape_sl ty_23 rfl s3
  obtain ⟨a3, rfl⟩ := list_of _ _ _ (taint_of _) y3 h3
  obtain ⟨a4, rfl⟩ := shape_bool ty_4 rfl s4
  obtain ⟨u5, rfl⟩ := res_cs _ _ s5
  obtain ⟨a6, rfl, _⟩ := shape_int ty_3 rfl s6
  obtain ⟨a7, rfl, _⟩ := shape_int ty_3 rfl s7
  exact ⟨⟨a1, a2, a3, a4, u5, a6, a7⟩, rfl⟩
theorem node_of (k : Nat) (cs : List D) (h : shape ty (k + 4) 27 cs) : ∃ a : Node, elemT ty 27 cs = a.d := by
  obtain ⟨a, rfl⟩ := node_cs k cs h
  exact ⟨a, elemT_agg ty_27 rfl⟩
theorem pods_of (k : Nat) (cs : List D) (h : shape ty (k + 8) 28 cs) : ∃ l : List Pod, cs = [.sl (l.map Pod.d)] := by
  obtain ⟨y, rfl, _, g⟩ := shape_sl ty_28 rfl h
  obtain ⟨l, rfl⟩ := list_of _ _ _ (pod_of _) y g
  exact ⟨l, rfl⟩
theorem small_bulk {α : Type} (enc : α → D) (l : List α) (h : D.bulkL (l.map enc) ≤ 1048576) : Small l := by
  have := D.bulkL_length (l.map enc)
  rw [List.length_map] at this
  unfold Small
  omega
theorem bulk_in {α : Type} (enc : α → D) {l : List α} {x : α} (h : x ∈ l) : (enc x).bulk ≤ D.bulkL (l.map enc) := D.bulkL_mem (List.mem_map.2 ⟨x, h, rfl⟩)
theorem reqs_bulk (l : List Req) (h : D.bulkL (l.map Req.d) ≤ 1048576) : Reqs.ok l := by
  refine ⟨small_bulk Req.d l h, fun r hr => ?_⟩
  have := bulk_in Req.d hr
  simp only [Req.d, D.bulk, D.bulkL] at this
  exact small_bulk strD _ (by omega)
theorem pod_bulk (p : Pod) (h : p.d.bulk ≤ 1048576) : p.ok := by
  simp only [Pod.d, Pod.cs, D.bulk, D.bulkL] at h
  refine ⟨small_bulk Label.d _ (by omega), small_bulk Bear.d _ (by omega), reqs_bulk _ (by omega), ⟨small_bulk Prefer.d _ (by omega), fun y hy => ?_⟩, small_bulk intD _ (by omega), ⟨small_bulk Term.d _ (by omega), fun y hy => ?_⟩, ⟨small_bulk Term.d _ (by omega), fun y hy => ?_⟩, ⟨small_bulk Spread.d _ (by omega), fun y hy => ?_⟩, small_bulk strD _ (by omega)⟩
  · have := bulk_in Prefer.d hy
    simp only [Prefer.d, D.bulk, D.bulkL] at this
    exact reqs_bulk _ (by omega)
  · have := bulk_in Term.d hy
    simp only [Term.d, D.bulk, D.bulkL] at this
    exact reqs_bulk _ (by omega)
  · have := bulk_in Term.d hy
    simp only [Term.d, D.bulk, D.bulkL] at this
    exact reqs_bulk _ (by omega)
  · have := bulk_in Spread.d hy
    simp only [Spread.d, D.bulk, D.bulkL] at this
    exact reqs_bulk _ (by omega)
theorem node_bulk (n : Node) (h : n.d.bulk ≤ 1048576) : n.ok := by
  simp only [Node.d, Node.cs, D.bulk, D.bulkL] at h
  exact ⟨small_bulk Label.d _ (by omega), small_bulk Taint.d _ (by omega)⟩
theorem pods_sums : ∀ (l : List Pod), portsOf l + claimsOf l ≤ D.bulkL (l.map Pod.d)
  | [] => by simp [portsOf, claimsOf]
  | p :: l => by
    have h := pods_sums l
    have h1 := D.bulkL_length (p.ports.map intD)
    have h2 := D.bulkL_length (p.claims.map strD)
    rw [List.length_map] at h1 h2
    simp only [portsOf, claimsOf, List.map_cons, List.sum_cons] at h ⊢
    simp only [D.bulkL]
    have e : p.d.bulk = D.bulkL p.cs + 1 := by simp only [Pod.d, D.bulk]
    rw [e]
    simp only [Pod.cs, D.bulk, D.bulkL]
    omega
theorem pods_bulk (l : List Pod) (h : D.bulkL (l.map Pod.d) ≤ 1048576) : Pods.ok l ∧ Pods.all l := by
  have := pods_sums l
  exact ⟨⟨small_bulk Pod.d l h, by omega, by omega⟩, fun p hp => pod_bulk p (Nat.le_trans (bulk_in Pod.d hp) h)⟩
end Go.Wm.Try1
