/-
  A part of the proof: an abstract run of the program, shown to be what the model does, and what it comes to.
-/
import Derived.Test.YthpomdmjckdknaaMA
set_option linter.unusedSectionVars false
set_option linter.unnecessarySimpa false
set_option maxRecDepth 100000
set_option linter.unusedVariables false
set_option linter.unusedSimpArgs false
set_option linter.defProp false
namespace Go.Wm.Try1
open Go Go.Wm Go.Proofs
set_option maxHeartbeats 4000000 in
theorem with4 {bd : Code} (hb : bd = bodyAt Try.f30 4) (n : Node) (u : Res) (p : Pod) (ns ds : List Str) (hl : Small p.ports) :
    ∀ (k i : Nat) (x : List Int), i + k = p.ports.length → Rising ordI x → x.length + k ≤ 1073741824 →
    evLoop E30 3 bd [(2, .ptr 3 0), (3, .ptr 6 0), (4, .ptr 7 0), (22, .d (.sl (p.ports.map intD))), (23, .d (.int .i64 (p.ports.length))), (24, .d (.int .i64 ((i : Int))))] [.gone, .gone, .row 9 1 ((ds).map strD), .box [.d (.str n.name), .d (.sl (n.labels.map Label.d)), .d (.sl (n.taints.map Taint.d)), .d (.bool n.off), .d (.int .i64 (n.give.cpu)), .d (.int .i64 (n.give.mem)), .d (.int .i64 (n.give.disk)), .d (.int .i64 (n.pods)), .d (.int .i64 (n.disks)), .sl 4 0 (ns).length, .d (.int .i64 (u.cpu)), .d (.int .i64 (u.mem)), .d (.int .i64 (u.disk)), .sl 5 0 (x).length, .sl 2 0 (ds).length], .row 9 1 ((ns).map strD), .row 3 1 ((x).map intD), .box [.d (.str p.name), .d (.int .i64 (p.prio)), .d (.sl (p.labels.map Label.d)), .d (.int .i64 (p.want.cpu)), .d (.int .i64 (p.want.mem)), .d (.int .i64 (p.want.disk)), .d (.sl (p.bears.map Bear.d)), .d (.sl (p.asks.map Req.d)), .d (.sl (p.prefers.map Prefer.d)), .d (.sl (p.ports.map intD)), .d (.sl (p.near.map Term.d)), .d (.sl (p.apart.map Term.d)), .d (.sl (p.spreads.map Spread.d)), .d (.sl (p.claims.map strD)), .d (.str p.node), .d (.str p.hope)], .box [.d (.str []), .nil, .nil, .d (.bool false), .d (.int .i64 (0)), .d (.int .i64 (0)), .d (.int .i64 (0)), .d (.int .i64 (0)), .d (.int .i64 (0)), .nil, .d (.int .i64 (0)), .d (.int .i64 (0)), .d (.int .i64 (0)), .nil, .nil]] = some ([(2, .ptr 3 0), (3, .ptr 6 0), (4, .ptr 7 0), (22, .d (.sl (p.ports.map intD))), (23, .d (.int .i64 (p.ports.length))), (24, .d (.int .i64 (p.ports.length))), (25, .d (.bool false))], [.gone, .gone, .row 9 1 ((ds).map strD), .box [.d (.str n.name), .d (.sl (n.labels.map Label.d)), .d (.sl (n.taints.map Taint.d)), .d (.bool n.off), .d (.int .i64 (n.give.cpu)), .d (.int .i64 (n.give.mem)), .d (.int .i64 (n.give.disk)), .d (.int .i64 (n.pods)), .d (.int .i64 (n.disks)), .sl 4 0 (ns).length, .d (.int .i64 (u.cpu)), .d (.int .i64 (u.mem)), .d (.int .i64 (u.disk)), .sl 5 0 (putsO ordI x (p.ports.drop i)).length, .sl 2 0 (ds).length], .row 9 1 ((ns).map strD), .row 3 1 ((putsO ordI x (p.ports.drop i)).map intD), .box [.d (.str p.name), .d (.int .i64 (p.prio)), .d (.sl (p.labels.map Label.d)), .d (.int .i64 (p.want.cpu)), .d (.int .i64 (p.want.mem)), .d (.int .i64 (p.want.disk)), .d (.sl (p.bears.map Bear.d)), .d (.sl (p.asks.map Req.d)), .d (.sl (p.prefers.map Prefer.d)), .d (.sl (p.ports.map intD)), .d (.sl (p.near.map Term.d)), .d (.sl (p.apart.map Term.d)), .d (.sl (p.spreads.map Spread.d)), .d (.sl (p.claims.map strD)), .d (.str p.node), .d (.str p.hope)], .box [.d (.str []), .nil, .nil, .d (.bool false), .d (.int .i64 (0)), .d (.int .i64 (0)), .d (.int .i64 (0)), .d (.int .i64 (0)), .d (.int .i64 (0)), .nil, .d (.int .i64 (0)), .d (.int .i64 (0)), .d (.int .i64 (0)), .nil, .nil]], .exit 0) := by
  simp only [bodyAt, bodyOf, loop_seq, loop_cond, loop_block, loop_loop, loop_region, loop_skip, loop_ret, loop_exit, orE_some, orE_none, Code.first, Option.getD_some, Nat.reduceEqDiff, ↓reduceIte, Try.f30] at hb
  subst hb
  unfold Small at hl
  intro k
  induction k with
  | zero =>
    intro i x hk hr hx
    have hi : (i : Int) = (p.ports.length : Int) := by omega
    have hd : p.ports.drop i = [] := by rw [List.drop_eq_nil_iff]; omega
    rw [c_round, hd]
    simp only [u30, Try.f30, hi, putsO, List.foldl_nil, Int.lt_irrefl, sm, tys, Nat.reduceAdd, Nat.reduceSub, Nat.reduceEqDiff, Nat.reduceLeDiff, Nat.reduceLT, Nat.reduceMul, Nat.reduceBEq, ↓reduceIte, reduceCtorEq, Int.reduceLT, Int.reduceLE, Int.reduceGT, Int.reduceGE, Int.reduceBEq, Int.reduceBNe, Int.reduceEq, Int.reduceNe, Int.reduceAdd, Int.reduceSub, Int.reduceMul, Int.reduceNeg, Int.reduceToNat]
  | succ k ih =>
    intro i x hk hr hx
    have hi : (i : Int) < (p.ports.length : Int) := by omega
    have h0 : 0 ≤ (i : Int) := by omega
    have hlt : i < p.ports.length := by omega
    have hci : p.ports[i]? = some p.ports[i] := by simp [hlt]
    have hd : p.ports.drop i = p.ports[i] :: p.ports.drop (i + 1) := List.drop_eq_getElem_cons hlt
    generalize p.ports[i] = c at hci hd
    have hw : IntKind.i64.wrap ((i : Int) + 1) = ((i + 1 : Nat) : Int) := by rw [wrap_i64 (by omega) (by omega)]; omega
    have hput := put_ordI x (by unfold Small; omega) hr c
    have hle := putO_le ordI x c
    have hq := ih (i + 1) (putO ordI x c) (by omega) (putO_rising ordI x c hr) (by omega)
    rw [hd]
    simp only [putsO, List.foldl_cons] at hq ⊢
    rw [← hq, c_round]
    simp only [u30, Try.f30, hi, h0, hci, hw, intD, hput, sm, tys, Nat.reduceAdd, Nat.reduceSub, Nat.reduceEqDiff, Nat.reduceLeDiff, Nat.reduceLT, Nat.reduceMul, Nat.reduceBEq, ↓reduceIte, reduceCtorEq, Int.reduceLT, Int.reduceLE, Int.reduceGT, Int.reduceGE, Int.reduceBEq, Int.reduceBNe, Int.reduceEq, Int.reduceNe, Int.reduceAdd, Int.reduceSub, Int.reduceMul, Int.reduceNeg, Int.reduceToNat]
set_option maxHeartbeats 4000000 in
theorem with9a {bd : Code} (hb : bd = bodyAt Try.f30 9) (n : Node) (u : Res) (p : Pod) (ns : List Str) (po : List Int) (hl : Small p.claims) :
    ∀ (k i : Nat) (x : List Str), i + k = p.claims.length → Rising ordS x → x.length + k ≤ 1073741824 →
    evLoop E30 3 bd [(2, .ptr 3 0), (4, .ptr 6 0), (35, .d (.sl (p.claims.map strD))), (36, .d (.int .i64 (p.claims.length))), (37, .d (.int .i64 ((i : Int))))] [.gone, .row 3 1 ((po).map intD), .gone, .box [.d (.str n.name), .d (.sl (n.labels.map Label.d)), .d (.sl (n.taints.map Taint.d)), .d (.bool n.off), .d (.int .i64 (n.give.cpu)), .d (.int .i64 (n.give.mem)), .d (.int .i64 (n.give.disk)), .d (.int .i64 (n.pods)), .d (.int .i64 (n.disks)), .sl 4 0 (ns).length, .d (.int .i64 (u.cpu)), .d (.int .i64 (u.mem)), .d (.int .i64 (u.disk)), .sl 1 0 (po).length, .sl 5 0 (x).length], .row 9 1 ((ns).map strD), .row 9 1 ((x).map strD), .box [.d (.str []), .nil, .nil, .d (.bool false), .d (.int .i64 (0)), .d (.int .i64 (0)), .d (.int .i64 (0)), .d (.int .i64 (0)), .d (.int .i64 (0)), .nil, .d (.int .i64 (0)), .d (.int .i64 (0)), .d (.int .i64 (0)), .nil, .nil]] = some ([(2, .ptr 3 0), (4, .ptr 6 0), (35, .d (.sl (p.claims.map strD))), (36, .d (.int .i64 (p.claims.length))), (37, .d (.int .i64 (p.claims.length))), (38, .d (.bool false))], [.gone, .row 3 1 ((po).map intD), .gone, .box [.d (.str n.name), .d (.sl (n.labels.map Label.d)), .d (.sl (n.taints.map Taint.d)), .d (.bool n.off), .d (.int .i64 (n.give.cpu)), .d (.int .i64 (n.give.mem)), .d (.int .i64 (n.give.disk)), .d (.int .i64 (n.pods)), .d (.int .i64 (n.disks)), .sl 4 0 (ns).length, .d (.int .i64 (u.cpu)), .d (.int .i64 (u.mem)), .d (.int .i64 (u.disk)), .sl 1 0 (po).length, .sl 5 0 (putsO ordS x (p.claims.drop i)).length], .row 9 1 ((ns).map strD), .row 9 1 ((putsO ordS x (p.claims.drop i)).map strD), .box [.d (.str []), .nil, .nil, .d (.bool false), .d (.int .i64 (0)), .d (.int .i64 (0)), .d (.int .i64 (0)), .d (.int .i64 (0)), .d (.int .i64 (0)), .nil, .d (.int .i64 (0)), .d (.int .i64 (0)), .d (.int .i64 (0)), .nil, .nil]], .exit 2) := by
  simp only [bodyAt, bodyOf, loop_seq, loop_cond, loop_block, loop_loop, loop_region, loop_skip, loop_ret, loop_exit, orE_some, orE_none, Code.first, Option.getD_some, Nat.reduceEqDiff, ↓reduceIte, Try.f30] at hb
  subst hb
  unfold Small at hl
  intro k
  induction k with
  | zero =>
    intro i x hk hr hx
    have hi : (i : Int) = (p.claims.length : Int) := by omega
    have hd : p.claims.drop i = [] := by rw [List.drop_eq_nil_iff]; omega
    rw [c_round, hd]
    simp only [u30, Try.f30, hi, putsO, List.foldl_nil, Int.lt_irrefl, sm, tys, Nat.reduceAdd, Nat.reduceSub, Nat.reduceEqDiff, Nat.reduceLeDiff, Nat.reduceLT, Nat.reduceMul, Nat.reduceBEq, ↓reduceIte, reduceCtorEq, Int.reduceLT, Int.reduceLE, Int.reduceGT, Int.reduceGE, Int.reduceBEq, Int.reduceBNe, Int.reduceEq, Int.reduceNe, Int.reduceAdd, Int.reduceSub, Int.reduceMul, Int.reduceNeg, Int.reduceToNat]
  | succ k ih =>
    intro i x hk hr hx
    have hi : (i : Int) < (p.claims.length : Int) := by omega
    have h0 : 0 ≤ (i : Int) := by omega
    have hlt : i < p.claims.length := by omega
    have hci : p.claims[i]? = some p.claims[i] := by simp [hlt]
    have hd : p.claims.drop i = p.claims[i] :: p.claims.drop (i + 1) := List.drop_eq_getElem_cons hlt
    generalize p.claims[i] = c at hci hd
    have hw : IntKind.i64.wrap ((i : Int) + 1) = ((i + 1 : Nat) : Int) := by rw [wrap_i64 (by omega) (by omega)]; omega
    have hput := put_ordS x (by unfold Small; omega) hr c
    have hle := putO_le ordS x c
    have hq := ih (i + 1) (putO ordS x c) (by omega) (putO_rising ordS x c hr) (by omega)
    rw [hd]
    simp only [putsO, List.foldl_cons] at hq ⊢
    rw [← hq, c_round]
    simp only [u30, Try.f30, hi, h0, hci, hw, strD, hput, sm, tys, Nat.reduceAdd, Nat.reduceSub, Nat.reduceEqDiff, Nat.reduceLeDiff, Nat.reduceLT, Nat.reduceMul, Nat.reduceBEq, ↓reduceIte, reduceCtorEq, Int.reduceLT, Int.reduceLE, Int.reduceGT, Int.reduceGE, Int.reduceBEq, Int.reduceBNe, Int.reduceEq, Int.reduceNe, Int.reduceAdd, Int.reduceSub, Int.reduceMul, Int.reduceNeg, Int.reduceToNat]
set_option maxHeartbeats 4000000 in
theorem with9b {bd : Code} (hb : bd = bodyAt Try.f30 9) (n : Node) (u : Res) (p : Pod) (ns : List Str) (po : List Int) (hl : Small p.claims) :
    ∀ (k i : Nat) (x : List Str), i + k = p.claims.length → Rising ordS x → x.length + k ≤ 1073741824 →
    evLoop E30 3 bd [(2, .ptr 3 0), (4, .ptr 7 0), (35, .d (.sl (p.claims.map strD))), (36, .d (.int .i64 (p.claims.length))), (37, .d (.int .i64 ((i : Int))))] [.gone, .gone, .gone, .box [.d (.str n.name), .d (.sl (n.labels.map Label.d)), .d (.sl (n.taints.map Taint.d)), .d (.bool n.off), .d (.int .i64 (n.give.cpu)), .d (.int .i64 (n.give.mem)), .d (.int .i64 (n.give.disk)), .d (.int .i64 (n.pods)), .d (.int .i64 (n.disks)), .sl 4 0 (ns).length, .d (.int .i64 (u.cpu)), .d (.int .i64 (u.mem)), .d (.int .i64 (u.disk)), .sl 5 0 (po).length, .sl 6 0 (x).length], .row 9 1 ((ns).map strD), .row 3 1 ((po).map intD), .row 9 1 ((x).map strD), .box [.d (.str []), .nil, .nil, .d (.bool false), .d (.int .i64 (0)), .d (.int .i64 (0)), .d (.int .i64 (0)), .d (.int .i64 (0)), .d (.int .i64 (0)), .nil, .d (.int .i64 (0)), .d (.int .i64 (0)), .d (.int .i64 (0)), .nil, .nil]] = some ([(2, .ptr 3 0), (4, .ptr 7 0), (35, .d (.sl (p.claims.map strD))), (36, .d (.int .i64 (p.claims.length))), (37, .d (.int .i64 (p.claims.length))), (38, .d (.bool false))], [.gone, .gone, .gone, .box [.d (.str n.name), .d (.sl (n.labels.map Label.d)), .d (.sl (n.taints.map Taint.d)), .d (.bool n.off), .d (.int .i64 (n.give.cpu)), .d (.int .i64 (n.give.mem)), .d (.int .i64 (n.give.disk)), .d (.int .i64 (n.pods)), .d (.int .i64 (n.disks)), .sl 4 0 (ns).length, .d (.int .i64 (u.cpu)), .d (.int .i64 (u.mem)), .d (.int .i64 (u.disk)), .sl 5 0 (po).length, .sl 6 0 (putsO ordS x (p.claims.drop i)).length], .row 9 1 ((ns).map strD), .row 3 1 ((po).map intD), .row 9 1 ((putsO ordS x (p.claims.drop i)).map strD), .box [.d (.str []), .nil, .nil, .d (.bool false), .d (.int .i64 (0)), .d (.int .i64 (0)), .d (.int .i64 (0)), .d (.int .i64 (0)), .d (.int .i64 (0)), .nil, .d (.int .i64 (0)), .d (.int .i64 (0)), .d (.int .i64 (0)), .nil, .nil]], .exit 2) := by
  simp only [bodyAt, bodyOf, loop_seq, loop_cond, loop_block, loop_loop, loop_region, loop_skip, loop_ret, loop_exit, orE_some, orE_none, Code.first, Option.getD_some, Nat.reduceEqDiff, ↓reduceIte, Try.f30] at hb
  subst hb
  unfold Small at hl
  intro k
  induction k with
  | zero =>
    intro i x hk hr hx
    have hi : (i : Int) = (p.claims.length : Int) := by omega
    have hd : p.claims.drop i = [] := by rw [List.drop_eq_nil_iff]; omega
    rw [c_round, hd]
    simp only [u30, Try.f30, hi, putsO, List.foldl_nil, Int.lt_irrefl, sm, tys, Nat.reduceAdd, Nat.reduceSub, Nat.reduceEqDiff, Nat.reduceLeDiff, Nat.reduceLT, Nat.reduceMul, Nat.reduceBEq, ↓reduceIte, reduceCtorEq, Int.reduceLT, Int.reduceLE, Int.reduceGT, Int.reduceGE, Int.reduceBEq, Int.reduceBNe, Int.reduceEq, Int.reduceNe, Int.reduceAdd, Int.reduceSub, Int.reduceMul, Int.reduceNeg, Int.reduceToNat]
  | succ k ih =>
    intro i x hk hr hx
    have hi : (i : Int) < (p.claims.length : Int) := by omega
    have h0 : 0 ≤ (i : Int) := by omega
    have hlt : i < p.claims.length := by omega
    have hci : p.claims[i]? = some p.claims[i] := by simp [hlt]
    have hd : p.claims.drop i = p.claims[i] :: p.claims.drop (i + 1) := List.drop_eq_getElem_cons hlt
    generalize p.claims[i] = c at hci hd
    have hw : IntKind.i64.wrap ((i : Int) + 1) = ((i + 1 : Nat) : Int) := by rw [wrap_i64 (by omega) (by omega)]; omega
    have hput := put_ordS x (by unfold Small; omega) hr c
    have hle := putO_le ordS x c
    have hq := ih (i + 1) (putO ordS x c) (by omega) (putO_rising ordS x c hr) (by omega)
    rw [hd]
    simp only [putsO, List.foldl_cons] at hq ⊢
    rw [← hq, c_round]
    simp only [u30, Try.f30, hi, h0, hci, hw, strD, hput, sm, tys, Nat.reduceAdd, Nat.reduceSub, Nat.reduceEqDiff, Nat.reduceLeDiff, Nat.reduceLT, Nat.reduceMul, Nat.reduceBEq, ↓reduceIte, reduceCtorEq, Int.reduceLT, Int.reduceLE, Int.reduceGT, Int.reduceGE, Int.reduceBEq, Int.reduceBNe, Int.reduceEq, Int.reduceNe, Int.reduceAdd, Int.reduceSub, Int.reduceMul, Int.reduceNeg, Int.reduceToNat]
end Go.Wm.Try1
namespace Go.Wm.Try1
open Go Go.Wm Go.Proofs
set_option maxHeartbeats 4000000 in
theorem ports_nil {bd : Code} (hb : bd = bodyAt Try.f30 4) (n : Node) (u : Res) (p : Pod) (ns ds : List Str) (po : List Int) (h : p.ports = []) :
    evLoop E30 3 bd [(2, .ptr 3 0), (3, .ptr 5 0), (4, .ptr 6 0), (22, .d (.sl (p.ports.map intD))), (23, .d (.int .i64 (p.ports.length))), (24, .d (.int .i64 (0)))] [.gone, .row 3 1 ((po).map intD), .row 9 1 ((ds).map strD), .box [.d (.str n.name), .d (.sl (n.labels.map Label.d)), .d (.sl (n.taints.map Taint.d)), .d (.bool n.off), .d (.int .i64 (n.give.cpu)), .d (.int .i64 (n.give.mem)), .d (.int .i64 (n.give.disk)), .d (.int .i64 (n.pods)), .d (.int .i64 (n.disks)), .sl 4 0 (ns).length, .d (.int .i64 (u.cpu)), .d (.int .i64 (u.mem)), .d (.int .i64 (u.disk)), .sl 1 0 (po).length, .sl 2 0 (ds).length], .row 9 1 ((ns).map strD), .box [.d (.str p.name), .d (.int .i64 (p.prio)), .d (.sl (p.labels.map Label.d)), .d (.int .i64 (p.want.cpu)), .d (.int .i64 (p.want.mem)), .d (.int .i64 (p.want.disk)), .d (.sl (p.bears.map Bear.d)), .d (.sl (p.asks.map Req.d)), .d (.sl (p.prefers.map Prefer.d)), .d (.sl (p.ports.map intD)), .d (.sl (p.near.map Term.d)), .d (.sl (p.apart.map Term.d)), .d (.sl (p.spreads.map Spread.d)), .d (.sl (p.claims.map strD)), .d (.str p.node), .d (.str p.hope)], .box [.d (.str []), .nil, .nil, .d (.bool false), .d (.int .i64 (0)), .d (.int .i64 (0)), .d (.int .i64 (0)), .d (.int .i64 (0)), .d (.int .i64 (0)), .nil, .d (.int .i64 (0)), .d (.int .i64 (0)), .d (.int .i64 (0)), .nil, .nil]] = some ([(2, .ptr 3 0), (3, .ptr 5 0), (4, .ptr 6 0), (22, .d (.sl (p.ports.map intD))), (23, .d (.int .i64 (p.ports.length))), (24, .d (.int .i64 (0))), (25, .d (.bool false))], [.gone, .row 3 1 ((po).map intD), .row 9 1 ((ds).map strD), .box [.d (.str n.name), .d (.sl (n.labels.map Label.d)), .d (.sl (n.taints.map Taint.d)), .d (.bool n.off), .d (.int .i64 (n.give.cpu)), .d (.int .i64 (n.give.mem)), .d (.int .i64 (n.give.disk)), .d (.int .i64 (n.pods)), .d (.int .i64 (n.disks)), .sl 4 0 (ns).length, .d (.int .i64 (u.cpu)), .d (.int .i64 (u.mem)), .d (.int .i64 (u.disk)), .sl 1 0 (po).length, .sl 2 0 (ds).length], .row 9 1 ((ns).map strD), .box [.d (.str p.name), .d (.int .i64 (p.prio)), .d (.sl (p.labels.map Label.d)), .d (.int .i64 (p.want.cpu)), .d (.int .i64 (p.want.mem)), .d (.int .i64 (p.want.disk)), .d (.sl (p.bears.map Bear.d)), .d (.sl (p.asks.map Req.d)), .d (.sl (p.prefers.map Prefer.d)), .d (.sl (p.ports.map intD)), .d (.sl (p.near.map Term.d)), .d (.sl (p.apart.map Term.d)), .d (.sl (p.spreads.map Spread.d)), .d (.sl (p.claims.map strD)), .d (.str p.node), .d (.str p.hope)], .box [.d (.str []), .nil, .nil, .d (.bool false), .d (.int .i64 (0)), .d (.int .i64 (0)), .d (.int .i64 (0)), .d (.int .i64 (0)), .d (.int .i64 (0)), .nil, .d (.int .i64 (0)), .d (.int .i64 (0)), .d (.int .i64 (0)), .nil, .nil]], .exit 0) := by
  simp only [bodyAt, bodyOf, loop_seq, loop_cond, loop_block, loop_loop, loop_region, loop_skip, loop_ret, loop_exit, orE_some, orE_none, Code.first, Option.getD_some, Nat.reduceEqDiff, ↓reduceIte, Try.f30] at hb
  subst hb
  have hl : (p.ports.length : Int) = 0 := by rw [h]; rfl
  rw [c_round]
  simp only [u30, Try.f30, hl, Int.lt_irrefl, sm, tys, Nat.reduceAdd, Nat.reduceSub, Nat.reduceEqDiff, Nat.reduceLeDiff, Nat.reduceLT, Nat.reduceMul, Nat.reduceBEq, ↓reduceIte, reduceCtorEq, Int.reduceLT, Int.reduceLE, Int.reduceGT, Int.reduceGE, Int.reduceBEq, Int.reduceBNe, Int.reduceEq, Int.reduceNe, Int.reduceAdd, Int.reduceSub, Int.reduceMul, Int.reduceNeg, Int.reduceToNat]
set_option maxHeartbeats 4000000 in
theorem ports_cons {bd : Code} (hb : bd = bodyAt Try.f30 4) (n : Node) (u : Res) (p : Pod) (ns ds : List Str) (po : List Int) (hl : Small p.ports) (c : Int) (r : List Int) (h : p.ports = c :: r) (hr : Rising ordI po) (hx : po.length + p.ports.length ≤ 1073741824) :
    evLoop E30 3 bd [(2, .ptr 3 0), (3, .ptr 5 0), (4, .ptr 6 0), (22, .d (.sl (p.ports.map intD))), (23, .d (.int .i64 (p.ports.length))), (24, .d (.int .i64 (0)))] [.gone, .row 3 1 ((po).map intD), .row 9 1 ((ds).map strD), .box [.d (.str n.name), .d (.sl (n.labels.map Label.d)), .d (.sl (n.taints.map Taint.d)), .d (.bool n.off), .d (.int .i64 (n.give.cpu)), .d (.int .i64 (n.give.mem)), .d (.int .i64 (n.give.disk)), .d (.int .i64 (n.pods)), .d (.int .i64 (n.disks)), .sl 4 0 (ns).length, .d (.int .i64 (u.cpu)), .d (.int .i64 (u.mem)), .d (.int .i64 (u.disk)), .sl 1 0 (po).length, .sl 2 0 (ds).length], .row 9 1 ((ns).map strD), .box [.d (.str p.name), .d (.int .i64 (p.prio)), .d (.sl (p.labels.map Label.d)), .d (.int .i64 (p.want.cpu)), .d (.int .i64 (p.want.mem)), .d (.int .i64 (p.want.disk)), .d (.sl (p.bears.map Bear.d)), .d (.sl (p.asks.map Req.d)), .d (.sl (p.prefers.map Prefer.d)), .d (.sl (p.ports.map intD)), .d (.sl (p.near.map Term.d)), .d (.sl (p.apart.map Term.d)), .d (.sl (p.spreads.map Spread.d)), .d (.sl (p.claims.map strD)), .d (.str p.node), .d (.str p.hope)], .box [.d (.str []), .nil, .nil, .d (.bool false), .d (.int .i64 (0)), .d (.int .i64 (0)), .d (.int .i64 (0)), .d (.int .i64 (0)), .d (.int .i64 (0)), .nil, .d (.int .i64 (0)), .d (.int .i64 (0)), .d (.int .i64 (0)), .nil, .nil]] = some ([(2, .ptr 3 0), (3, .ptr 6 0), (4, .ptr 7 0), (22, .d (.sl (p.ports.map intD))), (23, .d (.int .i64 (p.ports.length))), (24, .d (.int .i64 (p.ports.length))), (25, .d (.bool false))], [.gone, .gone, .row 9 1 ((ds).map strD), .box [.d (.str n.name), .d (.sl (n.labels.map Label.d)), .d (.sl (n.taints.map Taint.d)), .d (.bool n.off), .d (.int .i64 (n.give.cpu)), .d (.int .i64 (n.give.mem)), .d (.int .i64 (n.give.disk)), .d (.int .i64 (n.pods)), .d (.int .i64 (n.disks)), .sl 4 0 (ns).length, .d (.int .i64 (u.cpu)), .d (.int .i64 (u.mem)), .d (.int .i64 (u.disk)), .sl 5 0 (putsO ordI po p.ports).length, .sl 2 0 (ds).length], .row 9 1 ((ns).map strD), .row 3 1 ((putsO ordI po p.ports).map intD), .box [.d (.str p.name), .d (.int .i64 (p.prio)), .d (.sl (p.labels.map Label.d)), .d (.int .i64 (p.want.cpu)), .d (.int .i64 (p.want.mem)), .d (.int .i64 (p.want.disk)), .d (.sl (p.bears.map Bear.d)), .d (.sl (p.asks.map Req.d)), .d (.sl (p.prefers.map Prefer.d)), .d (.sl (p.ports.map intD)), .d (.sl (p.near.map Term.d)), .d (.sl (p.apart.map Term.d)), .d (.sl (p.spreads.map Spread.d)), .d (.sl (p.claims.map strD)), .d (.str p.node), .d (.str p.hope)], .box [.d (.str []), .nil, .nil, .d (.bool false), .d (.int .i64 (0)), .d (.int .i64 (0)), .d (.int .i64 (0)), .d (.int .i64 (0)), .d (.int .i64 (0)), .nil, .d (.int .i64 (0)), .d (.int .i64 (0)), .d (.int .i64 (0)), .nil, .nil]], .exit 0) := by
  have hlen : p.ports.length = r.length + 1 := by rw [h]; rfl
  have hd : p.ports.drop 1 = r := by rw [h]; rfl
  have hput := put_ordI po (by unfold Small; omega) hr c
  have hle := putO_le ordI po c
  have hq := with4 (bd := bd) hb n u p ns ds hl r.length 1 (putO ordI po c) (by omega) (putO_rising ordI po c hr) (by omega)
  have e : putsO ordI (putO ordI po c) (p.ports.drop 1) = putsO ordI po p.ports := by rw [hd, h]; rfl
  rw [e] at hq
  simp only [bodyAt, bodyOf, loop_seq, loop_cond, loop_block, loop_loop, loop_region, loop_skip, loop_ret, loop_exit, orE_some, orE_none, Code.first, Option.getD_some, Nat.reduceEqDiff, ↓reduceIte, Try.f30] at hb
  subst hb
  have hci : p.ports[0]? = some c := by rw [h]; rfl
  have hi : (0 : Int) < (p.ports.length : Int) := by omega
  have hw : IntKind.i64.wrap ((0 : Int) + 1) = 1 := rfl
  rw [← hq, c_round]
  simp only [u30, Try.f30, hi, hci, intD, hput, Int.cast_ofNat_Int, sm, tys, Nat.reduceAdd, Nat.reduceSub, Nat.reduceEqDiff, Nat.reduceLeDiff, Nat.reduceLT, Nat.reduceMul, Nat.reduceBEq, ↓reduceIte, reduceCtorEq, Int.reduceLT, Int.reduceLE, Int.reduceGT, Int.reduceGE, Int.reduceBEq, Int.reduceBNe, Int.reduceEq, Int.reduceNe, Int.reduceAdd, Int.reduceSub, Int.reduceMul, Int.reduceNeg, Int.reduceToNat]
set_option maxHeartbeats 4000000 in
theorem disksA_nil {bd : Code} (hb : bd = bodyAt Try.f30 9) (n : Node) (u : Res) (p : Pod) (ns ds : List Str) (po : List Int) (h : p.claims = []) :
    evLoop E30 3 bd [(2, .ptr 3 0), (4, .ptr 5 0), (35, .d (.sl (p.claims.map strD))), (36, .d (.int .i64 (p.claims.length))), (37, .d (.int .i64 (0)))] [.gone, .row 3 1 ((po).map intD), .row 9 1 ((ds).map strD), .box [.d (.str n.name), .d (.sl (n.labels.map Label.d)), .d (.sl (n.taints.map Taint.d)), .d (.bool n.off), .d (.int .i64 (n.give.cpu)), .d (.int .i64 (n.give.mem)), .d (.int .i64 (n.give.disk)), .d (.int .i64 (n.pods)), .d (.int .i64 (n.disks)), .sl 4 0 (ns).length, .d (.int .i64 (u.cpu)), .d (.int .i64 (u.mem)), .d (.int .i64 (u.disk)), .sl 1 0 (po).length, .sl 2 0 (ds).length], .row 9 1 ((ns).map strD), .box [.d (.str []), .nil, .nil, .d (.bool false), .d (.int .i64 (0)), .d (.int .i64 (0)), .d (.int .i64 (0)), .d (.int .i64 (0)), .d (.int .i64 (0)), .nil, .d (.int .i64 (0)), .d (.int .i64 (0)), .d (.int .i64 (0)), .nil, .nil]] = some ([(2, .ptr 3 0), (4, .ptr 5 0), (35, .d (.sl (p.claims.map strD))), (36, .d (.int .i64 (p.claims.length))), (37, .d (.int .i64 (0))), (38, .d (.bool false))], [.gone, .row 3 1 ((po).map intD), .row 9 1 ((ds).map strD), .box [.d (.str n.name), .d (.sl (n.labels.map Label.d)), .d (.sl (n.taints.map Taint.d)), .d (.bool n.off), .d (.int .i64 (n.give.cpu)), .d (.int .i64 (n.give.mem)), .d (.int .i64 (n.give.disk)), .d (.int .i64 (n.pods)), .d (.int .i64 (n.disks)), .sl 4 0 (ns).length, .d (.int .i64 (u.cpu)), .d (.int .i64 (u.mem)), .d (.int .i64 (u.disk)), .sl 1 0 (po).length, .sl 2 0 (ds).length], .row 9 1 ((ns).map strD), .box [.d (.str []), .nil, .nil, .d (.bool false), .d (.int .i64 (0)), .d (.int .i64 (0)), .d (.int .i64 (0)), .d (.int .i64 (0)), .d (.int .i64 (0)), .nil, .d (.int .i64 (0)), .d (.int .i64 (0)), .d (.int .i64 (0)), .nil, .nil]], .exit 2) := by
  simp only [bodyAt, bodyOf, loop_seq, loop_cond, loop_block, loop_loop, loop_region, loop_skip, loop_ret, loop_exit, orE_some, orE_none, Code.first, Option.getD_some, Nat.reduceEqDiff, ↓reduceIte, Try.f30] at hb
  subst hb
  have hl : (p.claims.length : Int) = 0 := by rw [h]; rfl
  rw [c_round]
  simp only [u30, Try.f30, hl, Int.lt_irrefl, sm, tys, Nat.reduceAdd, Nat.reduceSub, Nat.reduceEqDiff, Nat.reduceLeDiff, Nat.reduceLT, Nat.reduceMul, Nat.reduceBEq, ↓reduceIte, reduceCtorEq, Int.reduceLT, Int.reduceLE, Int.reduceGT, Int.reduceGE, Int.reduceBEq, Int.reduceBNe, Int.reduceEq, Int.reduceNe, Int.reduceAdd, Int.reduceSub, Int.reduceMul, Int.reduceNeg, Int.reduceToNat]
set_option maxHeartbeats 4000000 in
theorem disksA_cons {bd : Code} (hb : bd = bodyAt Try.f30 9) (n : Node) (u : Res) (p : Pod) (ns ds : List Str) (po : List Int) (hl : Small p.claims) (c : Str) (r : List Str) (h : p.claims = c :: r) (hr : Rising ordS ds) (hx : ds.length + p.claims.length ≤ 1073741824) :
    evLoop E30 3 bd [(2, .ptr 3 0), (4, .ptr 5 0), (35, .d (.sl (p.claims.map strD))), (36, .d (.int .i64 (p.claims.length))), (37, .d (.int .i64 (0)))] [.gone, .row 3 1 ((po).map intD), .row 9 1 ((ds).map strD), .box [.d (.str n.name), .d (.sl (n.labels.map Label.d)), .d (.sl (n.taints.map Taint.d)), .d (.bool n.off), .d (.int .i64 (n.give.cpu)), .d (.int .i64 (n.give.mem)), .d (.int .i64 (n.give.disk)), .d (.int .i64 (n.pods)), .d (.int .i64 (n.disks)), .sl 4 0 (ns).length, .d (.int .i64 (u.cpu)), .d (.int .i64 (u.mem)), .d (.int .i64 (u.disk)), .sl 1 0 (po).length, .sl 2 0 (ds).length], .row 9 1 ((ns).map strD), .box [.d (.str []), .nil, .nil, .d (.bool false), .d (.int .i64 (0)), .d (.int .i64 (0)), .d (.int .i64 (0)), .d (.int .i64 (0)), .d (.int .i64 (0)), .nil, .d (.int .i64 (0)), .d (.int .i64 (0)), .d (.int .i64 (0)), .nil, .nil]] = some ([(2, .ptr 3 0), (4, .ptr 6 0), (35, .d (.sl (p.claims.map strD))), (36, .d (.int .i64 (p.claims.length))), (37, .d (.int .i64 (p.claims.length))), (38, .d (.bool false))], [.gone, .row 3 1 ((po).map intD), .gone, .box [.d (.str n.name), .d (.sl (n.labels.map Label.d)), .d (.sl (n.taints.map Taint.d)), .d (.bool n.off), .d (.int .i64 (n.give.cpu)), .d (.int .i64 (n.give.mem)), .d (.int .i64 (n.give.disk)), .d (.int .i64 (n.pods)), .d (.int .i64 (n.disks)), .sl 4 0 (ns).length, .d (.int .i64 (u.cpu)), .d (.int .i64 (u.mem)), .d (.int .i64 (u.disk)), .sl 1 0 (po).length, .sl 5 0 (putsO ordS ds p.claims).length], .row 9 1 ((ns).map strD), .row 9 1 ((putsO ordS ds p.claims).map strD), .box [.d (.str []), .nil, .nil, .d (.bool false), .d (.int .i64 (0)), .d (.int .i64 (0)), .d (.int .i64 (0)), .d (.int .i64 (0)), .d (.int .i64 (0)), .nil, .d (.int .i64 (0)), .d (.int .i64 (0)), .d (.int .i64 (0)), .nil, .nil]], .exit 2) := by
  have hlen : p.claims.length = r.length + 1 := by rw [h]; rfl
  have hd : p.claims.drop 1 = r := by rw [h]; rfl
  have hput := put_ordS ds (by unfold Small; omega) hr c
  have hle := putO_le ordS ds c
  have hq := with9a (bd := bd) hb n u p ns po hl r.length 1 (putO ordS ds c) (by omega) (putO_rising ordS ds c hr) (by omega)
  have e : putsO ordS (putO ordS ds c) (p.claims.drop 1) = putsO ordS ds p.claims := by rw [hd, h]; rfl
  rw [e] at hq
  simp only [bodyAt, bodyOf, loop_seq, loop_cond, loop_block, loop_loop, loop_region, loop_skip, loop_ret, loop_exit, orE_some, orE_none, Code.first, Option.getD_some, Nat.reduceEqDiff, ↓reduceIte, Try.f30] at hb
  subst hb
  have hci : p.claims[0]? = some c := by rw [h]; rfl
  have hi : (0 : Int) < (p.claims.length : Int) := by omega
  have hw : IntKind.i64.wrap ((0 : Int) + 1) = 1 := rfl
  rw [← hq, c_round]
  simp only [u30, Try.f30, hi, hci, strD, hput, Int.cast_ofNat_Int, sm, tys, Nat.reduceAdd, Nat.reduceSub, Nat.reduceEqDiff, Nat.reduceLeDiff, Nat.reduceLT, Nat.reduceMul, Nat.reduceBEq, ↓reduceIte, reduceCtorEq, Int.reduceLT, Int.reduceLE, Int.reduceGT, Int.reduceGE, Int.reduceBEq, Int.reduceBNe, Int.reduceEq, Int.reduceNe, Int.reduceAdd, Int.reduceSub, Int.reduceMul, Int.reduceNeg, Int.reduceToNat]
set_option maxHeartbeats 4000000 in
theorem disksB_nil {bd : Code} (hb : bd = bodyAt Try.f30 9) (n : Node) (u : Res) (p : Pod) (ns ds : List Str) (po : List Int) (h : p.claims = []) :
    evLoop E30 3 bd [(2, .ptr 3 0), (4, .ptr 6 0), (35, .d (.sl (p.claims.map strD))), (36, .d (.int .i64 (p.claims.length))), (37, .d (.int .i64 (0)))] [.gone, .gone, .row 9 1 ((ds).map strD), .box [.d (.str n.name), .d (.sl (n.labels.map Label.d)), .d (.sl (n.taints.map Taint.d)), .d (.bool n.off), .d (.int .i64 (n.give.cpu)), .d (.int .i64 (n.give.mem)), .d (.int .i64 (n.give.disk)), .d (.int .i64 (n.pods)), .d (.int .i64 (n.disks)), .sl 4 0 (ns).length, .d (.int .i64 (u.cpu)), .d (.int .i64 (u.mem)), .d (.int .i64 (u.disk)), .sl 5 0 (po).length, .sl 2 0 (ds).length], .row 9 1 ((ns).map strD), .row 3 1 ((po).map intD), .box [.d (.str []), .nil, .nil, .d (.bool false), .d (.int .i64 (0)), .d (.int .i64 (0)), .d (.int .i64 (0)), .d (.int .i64 (0)), .d (.int .i64 (0)), .nil, .d (.int .i64 (0)), .d (.int .i64 (0)), .d (.int .i64 (0)), .nil, .nil]] = some ([(2, .ptr 3 0), (4, .ptr 6 0), (35, .d (.sl (p.claims.map strD))), (36, .d (.int .i64 (p.claims.length))), (37, .d (.int .i64 (0))), (38, .d (.bool false))], [.gone, .gone, .row 9 1 ((ds).map strD), .box [.d (.str n.name), .d (.sl (n.labels.map Label.d)), .d (.sl (n.taints.map Taint.d)), .d (.bool n.off), .d (.int .i64 (n.give.cpu)), .d (.int .i64 (n.give.mem)), .d (.int .i64 (n.give.disk)), .d (.int .i64 (n.pods)), .d (.int .i64 (n.disks)), .sl 4 0 (ns).length, .d (.int .i64 (u.cpu)), .d (.int .i64 (u.mem)), .d (.int .i64 (u.disk)), .sl 5 0 (po).length, .sl 2 0 (ds).length], .row 9 1 ((ns).map strD), .row 3 1 ((po).map intD), .box [.d (.str []), .nil, .nil, .d (.bool false), .d (.int .i64 (0)), .d (.int .i64 (0)), .d (.int .i64 (0)), .d (.int .i64 (0)), .d (.int .i64 (0)), .nil, .d (.int .i64 (0)), .d (.int .i64 (0)), .d (.int .i64 (0)), .nil, .nil]], .exit 2) := by
  simp only [bodyAt, bodyOf, loop_seq, loop_cond, loop_block, loop_loop, loop_region, loop_skip, loop_ret, loop_exit, orE_some, orE_none, Code.first, Option.getD_some, Nat.reduceEqDiff, ↓reduceIte, Try.f30] at hb
  subst hb
  have hl : (p.claims.length : Int) = 0 := by rw [h]; rfl
  rw [c_round]
  simp only [u30, Try.f30, hl, Int.lt_irrefl, sm, tys, Nat.reduceAdd, Nat.reduceSub, Nat.reduceEqDiff, Nat.reduceLeDiff, Nat.reduceLT, Nat.reduceMul, Nat.reduceBEq, ↓reduceIte, reduceCtorEq, Int.reduceLT, Int.reduceLE, Int.reduceGT, Int.reduceGE, Int.reduceBEq, Int.reduceBNe, Int.reduceEq, Int.reduceNe, Int.reduceAdd, Int.reduceSub, Int.reduceMul, Int.reduceNeg, Int.reduceToNat]
set_option maxHeartbeats 4000000 in
theorem disksB_cons {bd : Code} (hb : bd = bodyAt Try.f30 9) (n : Node) (u : Res) (p : Pod) (ns ds : List Str) (po : List Int) (hl : Small p.claims) (c : Str) (r : List Str) (h : p.claims = c :: r) (hr : Rising ordS ds) (hx : ds.length + p.claims.length ≤ 1073741824) :
    evLoop E30 3 bd [(2, .ptr 3 0), (4, .ptr 6 0), (35, .d (.sl (p.claims.map strD))), (36, .d (.int .i64 (p.claims.length))), (37, .d (.int .i64 (0)))] [.gone, .gone, .row 9 1 ((ds).map strD), .box [.d (.str n.name), .d (.sl (n.labels.map Label.d)), .d (.sl (n.taints.map Taint.d)), .d (.bool n.off), .d (.int .i64 (n.give.cpu)), .d (.int .i64 (n.give.mem)), .d (.int .i64 (n.give.disk)), .d (.int .i64 (n.pods)), .d (.int .i64 (n.disks)), .sl 4 0 (ns).length, .d (.int .i64 (u.cpu)), .d (.int .i64 (u.mem)), .d (.int .i64 (u.disk)), .sl 5 0 (po).length, .sl 2 0 (ds).length], .row 9 1 ((ns).map strD), .row 3 1 ((po).map intD), .box [.d (.str []), .nil, .nil, .d (.bool false), .d (.int .i64 (0)), .d (.int .i64 (0)), .d (.int .i64 (0)), .d (.int .i64 (0)), .d (.int .i64 (0)), .nil, .d (.int .i64 (0)), .d (.int .i64 (0)), .d (.int .i64 (0)), .nil, .nil]] = some ([(2, .ptr 3 0), (4, .ptr 7 0), (35, .d (.sl (p.claims.map strD))), (36, .d (.int .i64 (p.claims.length))), (37, .d (.int .i64 (p.claims.length))), (38, .d (.bool false))], [.gone, .gone, .gone, .box [.d (.str n.name), .d (.sl (n.labels.map Label.d)), .d (.sl (n.taints.map Taint.d)), .d (.bool n.off), .d (.int .i64 (n.give.cpu)), .d (.int .i64 (n.give.mem)), .d (.int .i64 (n.give.disk)), .d (.int .i64 (n.pods)), .d (.int .i64 (n.disks)), .sl 4 0 (ns).length, .d (.int .i64 (u.cpu)), .d (.int .i64 (u.mem)), .d (.int .i64 (u.disk)), .sl 5 0 (po).length, .sl 6 0 (putsO ordS ds p.claims).length], .row 9 1 ((ns).map strD), .row 3 1 ((po).map intD), .row 9 1 ((putsO ordS ds p.claims).map strD), .box [.d (.str []), .nil, .nil, .d (.bool false), .d (.int .i64 (0)), .d (.int .i64 (0)), .d (.int .i64 (0)), .d (.int .i64 (0)), .d (.int .i64 (0)), .nil, .d (.int .i64 (0)), .d (.int .i64 (0)), .d (.int .i64 (0)), .nil, .nil]], .exit 2) := by
  have hlen : p.claims.length = r.length + 1 := by rw [h]; rfl
  have hd : p.claims.drop 1 = r := by rw [h]; rfl
  have hput := put_ordS ds (by unfold Small; omega) hr c
  have hle := putO_le ordS ds c
  have hq := with9b (bd := bd) hb n u p ns po hl r.length 1 (putO ordS ds c) (by omega) (putO_rising ordS ds c hr) (by omega)
  have e : putsO ordS (putO ordS ds c) (p.claims.drop 1) = putsO ordS ds p.claims := by rw [hd, h]; rfl
  rw [e] at hq
  simp only [bodyAt, bodyOf, loop_seq, loop_cond, loop_block, loop_loop, loop_region, loop_skip, loop_ret, loop_exit, orE_some, orE_none, Code.first, Option.getD_some, Nat.reduceEqDiff, ↓reduceIte, Try.f30] at hb
  subst hb
  have hci : p.claims[0]? = some c := by rw [h]; rfl
  have hi : (0 : Int) < (p.claims.length : Int) := by omega
  have hw : IntKind.i64.wrap ((0 : Int) + 1) = 1 := rfl
  rw [← hq, c_round]
  simp only [u30, Try.f30, hi, hci, strD, hput, Int.cast_ofNat_Int, sm, tys, Nat.reduceAdd, Nat.reduceSub, Nat.reduceEqDiff, Nat.reduceLeDiff, Nat.reduceLT, Nat.reduceMul, Nat.reduceBEq, ↓reduceIte, reduceCtorEq, Int.reduceLT, Int.reduceLE, Int.reduceGT, Int.reduceGE, Int.reduceBEq, Int.reduceBNe, Int.reduceEq, Int.reduceNe, Int.reduceAdd, Int.reduceSub, Int.reduceMul, Int.reduceNeg, Int.reduceToNat]
end Go.Wm.Try1
namespace Go.Wm.Try1
open Go Go.Wm Go.Proofs
/-- an info with a pod -/
def Info.plus (x : Info) (p : Pod) : Info := { x with names := putO ordS x.names p.name, used := x.used.add p.want, ports := putsO ordI x.ports p.ports, disks := putsO ordS x.disks p.claims }
set_option maxHeartbeats 8000000 in
theorem with_eq (n : Node) (u : Res) (ns ds : List Str) (po : List Int) (p : Pod) (h1 : Rising ordS ns) (h2 : Rising ordI po) (h3 : Rising ordS ds) (l1 : Small ns) (l2 : po.length + p.ports.length ≤ 1073741824) (l3 : ds.length + p.claims.length ≤ 1073741824) :
    v30 [.agg [.d (.str n.name), .d (.sl (n.labels.map Label.d)), .d (.sl (n.taints.map Taint.d)), .d (.bool n.off), .d (.int .i64 (n.give.cpu)), .d (.int .i64 (n.give.mem)), .d (.int .i64 (n.give.disk)), .d (.int .i64 (n.pods)), .d (.int .i64 (n.disks)), .sl 0 0 (ns).length, .d (.int .i64 (u.cpu)), .d (.int .i64 (u.mem)), .d (.int .i64 (u.disk)), .sl 1 0 (po).length, .sl 2 0 (ds).length], .d p.d] [.row 9 1 ((ns).map strD), .row 3 1 ((po).map intD), .row 9 1 ((ds).map strD)] = some (.agg [.d (.str n.name), .d (.sl (n.labels.map Label.d)), .d (.sl (n.taints.map Taint.d)), .d (.bool n.off), .d (.int .i64 (n.give.cpu)), .d (.int .i64 (n.give.mem)), .d (.int .i64 (n.give.disk)), .d (.int .i64 (n.pods)), .d (.int .i64 (n.disks)), .sl 3 0 (putO ordS ns p.name).length, .d (.int .i64 ((u.add p.want).cpu)), .d (.int .i64 ((u.add p.want).mem)), .d (.int .i64 ((u.add p.want).disk)), .sl 4 0 (putsO ordI po p.ports).length, .sl 5 0 (putsO ordS ds p.claims).length], [.gone, .gone, .gone, .row 9 1 ((putO ordS ns p.name).map strD), .row 3 1 ((putsO ordI po p.ports).map intD), .row 9 1 ((putsO ordS ds p.claims).map strD)]) := by
  have hput := put_ordS ns l1 h1 p.name
  have hplus := plus_eq u p.want
  simp only [Res.d] at hplus
  have s1 : Small p.ports := by unfold Small; omega
  have s2 : Small p.claims := by unfold Small; omega
  generalize putO ordS ns p.name = ns2 at hput ⊢
  generalize u.add p.want = u2 at hplus ⊢
  have hcp : p.ports = [] ∨ ∃ c r, p.ports = c :: r := by cases p.ports <;> simp
  have hcc : p.claims = [] ∨ ∃ c r, p.claims = c :: r := by cases p.claims <;> simp
  rcases hcp with hp | ⟨c, r, hp⟩
  · have i1 : putsO ordI po p.ports = po := by rw [hp]; rfl
    rw [i1]
    have q1 := ports_nil (bd := bodyAt Try.f30 4) rfl n u2 p ns2 ds po hp
    rcases hcc with hc | ⟨c', r', hc⟩
    · have i2 : putsO ordS ds p.claims = ds := by rw [hc]; rfl
      rw [i2]
      have q2 := disksA_nil (bd := bodyAt Try.f30 9) rfl n u2 p ns2 ds po hc
      simp only [bodyAt, bodyOf, loop_seq, loop_cond, loop_block, loop_loop, loop_region, loop_skip, loop_ret, loop_exit, orE_some, orE_none, Code.first, Option.getD_some, Nat.reduceEqDiff, ↓reduceIte, Try.f30] at q1 q2
      simp only [u30, Try.f30, Pod.d, Pod.cs, hput, hplus, q1, q2, sm, tys, Nat.reduceAdd, Nat.reduceSub, Nat.reduceEqDiff, Nat.reduceLeDiff, Nat.reduceLT, Nat.reduceMul, Nat.reduceBEq, ↓reduceIte, reduceCtorEq, Int.reduceLT, Int.reduceLE, Int.reduceGT, Int.reduceGE, Int.reduceBEq, Int.reduceBNe, Int.reduceEq, Int.reduceNe, Int.reduceAdd, Int.reduceSub, Int.reduceMul, Int.reduceNeg, Int.reduceToNat]
    · have q2 := disksA_cons (bd := bodyAt Try.f30 9) rfl n u2 p ns2 ds po s2 c' r' hc h3 l3
      simp only [bodyAt, bodyOf, loop_seq, loop_cond, loop_block, loop_loop, loop_region, loop_skip, loop_ret, loop_exit, orE_some, orE_none, Code.first, Option.getD_some, Nat.reduceEqDiff, ↓reduceIte, Try.f30] at q1 q2
      simp only [u30, Try.f30, Pod.d, Pod.cs, hput, hplus, q1, q2, sm, tys, Nat.reduceAdd, Nat.reduceSub, Nat.reduceEqDiff, Nat.reduceLeDiff, Nat.reduceLT, Nat.reduceMul, Nat.reduceBEq, ↓reduceIte, reduceCtorEq, Int.reduceLT, Int.reduceLE, Int.reduceGT, Int.reduceGE, Int.reduceBEq, Int.reduceBNe, Int.reduceEq, Int.reduceNe, Int.reduceAdd, Int.reduceSub, Int.reduceMul, Int.reduceNeg, Int.reduceToNat]
  · have q1 := ports_cons (bd := bodyAt Try.f30 4) rfl n u2 p ns2 ds po s1 c r hp h2 l2
    rcases hcc with hc | ⟨c', r', hc⟩
    · have i2 : putsO ordS ds p.claims = ds := by rw [hc]; rfl
      rw [i2]
      have q2 := disksB_nil (bd := bodyAt Try.f30 9) rfl n u2 p ns2 ds (putsO ordI po p.ports) hc
      simp only [bodyAt, bodyOf, loop_seq, loop_cond, loop_block, loop_loop, loop_region, loop_skip, loop_ret, loop_exit, orE_some, orE_none, Code.first, Option.getD_some, Nat.reduceEqDiff, ↓reduceIte, Try.f30] at q1 q2
      simp only [u30, Try.f30, Pod.d, Pod.cs, hput, hplus, q1, q2, sm, tys, Nat.reduceAdd, Nat.reduceSub, Nat.reduceEqDiff, Nat.reduceLeDiff, Nat.reduceLT, Nat.reduceMul, Nat.reduceBEq, ↓reduceIte, reduceCtorEq, Int.reduceLT, Int.reduceLE, Int.reduceGT, Int.reduceGE, Int.reduceBEq, Int.reduceBNe, Int.reduceEq, Int.reduceNe, Int.reduceAdd, Int.reduceSub, Int.reduceMul, Int.reduceNeg, Int.reduceToNat]
    · have q2 := disksB_cons (bd := bodyAt Try.f30 9) rfl n u2 p ns2 ds (putsO ordI po p.ports) s2 c' r' hc h3 l3
      simp only [bodyAt, bodyOf, loop_seq, loop_cond, loop_block, loop_loop, loop_region, loop_skip, loop_ret, loop_exit, orE_some, orE_none, Code.first, Option.getD_some, Nat.reduceEqDiff, ↓reduceIte, Try.f30] at q1 q2
      simp only [u30, Try.f30, Pod.d, Pod.cs, hput, hplus, q1, q2, sm, tys, Nat.reduceAdd, Nat.reduceSub, Nat.reduceEqDiff, Nat.reduceLeDiff, Nat.reduceLT, Nat.reduceMul, Nat.reduceBEq, ↓reduceIte, reduceCtorEq, Int.reduceLT, Int.reduceLE, Int.reduceGT, Int.reduceGE, Int.reduceBEq, Int.reduceBNe, Int.reduceEq, Int.reduceNe, Int.reduceAdd, Int.reduceSub, Int.reduceMul, Int.reduceNeg, Int.reduceToNat]
end Go.Wm.Try1
namespace Go.Wm.Try1
open Go Go.Wm Go.Proofs
set_option maxHeartbeats 1000000 in
theorem index_loop_string {bd : Code} (hb : bd = bodyAt Try.f55 2) (l : List Str) (hl : Small l) (x : Str) : ∀ (k i : Nat), i + k = l.length →
    (x ∈ l.drop i ∧ ∃ r : Int, 0 ≤ r ∧ evLoop E55 0 bd [(0, .d (.sl (l.map strD))), (1, .d (D.str x)), (7, .d (.int .i64 (l.length))), (8, .d (.int .i64 ((i : Int))))] [] = some ([(4, .d (.int .i64 (r)))], [], .ret)) ∨
    (¬ x ∈ l.drop i ∧ evLoop E55 0 bd [(0, .d (.sl (l.map strD))), (1, .d (D.str x)), (7, .d (.int .i64 (l.length))), (8, .d (.int .i64 ((i : Int))))] [] = some ([(0, .d (.sl (l.map strD))), (1, .d (D.str x)), (7, .d (.int .i64 (l.length))), (8, .d (.int .i64 (l.length))), (9, .d (.bool false))], [], .exit 0)) := by
  simp only [bodyAt, bodyOf, loop_seq, loop_cond, loop_block, loop_loop, loop_region, loop_skip, loop_ret, loop_exit, orE_some, orE_none, Code.first, Option.getD_some, Nat.reduceEqDiff, ↓reduceIte, Try.f55] at hb
  subst hb
  unfold Small at hl
  intro k
  induction k with
  | zero =>
    intro i hk
    have hi : (i : Int) = (l.length : Int) := by omega
    have hd : l.drop i = [] := by rw [List.drop_eq_nil_iff]; omega
    refine .inr ⟨by rw [hd]; simp, ?_⟩
    rw [c_round]
    simp only [u55, Try.f55, hi, Int.lt_irrefl, sm, tys, Nat.reduceAdd, Nat.reduceSub, Nat.reduceEqDiff, Nat.reduceLeDiff, Nat.reduceLT, Nat.reduceMul, Nat.reduceBEq, ↓reduceIte, reduceCtorEq, Int.reduceLT, Int.reduceLE, Int.reduceGT, Int.reduceGE, Int.reduceBEq, Int.reduceBNe, Int.reduceEq, Int.reduceNe, Int.reduceAdd, Int.reduceSub, Int.reduceMul, Int.reduceNeg, Int.reduceToNat]
  | succ k ih =>
    intro i hk
    have hi : (i : Int) < (l.length : Int) := by omega
    have h0 : 0 ≤ (i : Int) := by omega
    have hlt : i < l.length := by omega
    have hci : l[i]? = some l[i] := by simp [hlt]
    have hd : l.drop i = l[i] :: l.drop (i + 1) := List.drop_eq_getElem_cons hlt
    generalize l[i] = c at hci hd
    have hw : IntKind.i64.wrap ((i : Int) + 1) = ((i + 1 : Nat) : Int) := by rw [wrap_i64 (by omega) (by omega)]; omega
    by_cases e : x = c
    · refine .inl ⟨by rw [hd, e]; simp, (i : Int), h0, ?_⟩
      rw [c_round]
      simp only [u55, Try.f55, hi, h0, hci, strD, e, sm, tys, Nat.reduceAdd, Nat.reduceSub, Nat.reduceEqDiff, Nat.reduceLeDiff, Nat.reduceLT, Nat.reduceMul, Nat.reduceBEq, ↓reduceIte, reduceCtorEq, Int.reduceLT, Int.reduceLE, Int.reduceGT, Int.reduceGE, Int.reduceBEq, Int.reduceBNe, Int.reduceEq, Int.reduceNe, Int.reduceAdd, Int.reduceSub, Int.reduceMul, Int.reduceNeg, Int.reduceToNat]
    · rw [hd]
      have : (x ∈ c :: l.drop (i + 1)) ↔ x ∈ l.drop (i + 1) := by simp [e]
      rw [this]
      rcases ih (i + 1) (by omega) with ⟨q1, r, q2, q3⟩ | ⟨q1, q3⟩
      · refine .inl ⟨q1, r, q2, ?_⟩
        rw [← q3, c_round]
        simp only [u55, Try.f55, hi, h0, hci, hw, strD, e, sm, tys, Nat.reduceAdd, Nat.reduceSub, Nat.reduceEqDiff, Nat.reduceLeDiff, Nat.reduceLT, Nat.reduceMul, Nat.reduceBEq, ↓reduceIte, reduceCtorEq, Int.reduceLT, Int.reduceLE, Int.reduceGT, Int.reduceGE, Int.reduceBEq, Int.reduceBNe, Int.reduceEq, Int.reduceNe, Int.reduceAdd, Int.reduceSub, Int.reduceMul, Int.reduceNeg, Int.reduceToNat]
      · refine .inr ⟨q1, ?_⟩
        rw [← q3, c_round]
        simp only [u55, Try.f55, hi, h0, hci, hw, strD, e, sm, tys, Nat.reduceAdd, Nat.reduceSub, Nat.reduceEqDiff, Nat.reduceLeDiff, Nat.reduceLT, Nat.reduceMul, Nat.reduceBEq, ↓reduceIte, reduceCtorEq, Int.reduceLT, Int.reduceLE, Int.reduceGT, Int.reduceGE, Int.reduceBEq, Int.reduceBNe, Int.reduceEq, Int.reduceNe, Int.reduceAdd, Int.reduceSub, Int.reduceMul, Int.reduceNeg, Int.reduceToNat]
theorem contains_string (l : List Str) (hl : Small l) (x : Str) : v29 [.d (.sl (l.map strD)), .d (D.str x)] [] = some (.d (.bool (decide (x ∈ l))), []) := by
  rcases index_loop_string (bd := bodyAt Try.f55 2) rfl l hl x l.length 0 (by omega) with ⟨q1, r, q2, q3⟩ | ⟨q1, q3⟩
  · simp only [bodyAt, bodyOf, loop_seq, loop_cond, loop_block, loop_loop, loop_region, loop_skip, loop_ret, loop_exit, orE_some, orE_none, Code.first, Option.getD_some, Nat.reduceEqDiff, ↓reduceIte, Try.f55] at q3
    rw [List.drop_zero] at q1
    simp only [Int.cast_ofNat_Int] at q3
    simp only [u29, Try.f29, u55, Try.f55, q1, q2, q3, sm, tys, Nat.reduceAdd, Nat.reduceSub, Nat.reduceEqDiff, Nat.reduceLeDiff, Nat.reduceLT, Nat.reduceMul, Nat.reduceBEq, ↓reduceIte, reduceCtorEq, Int.reduceLT, Int.reduceLE, Int.reduceGT, Int.reduceGE, Int.reduceBEq, Int.reduceBNe, Int.reduceEq, Int.reduceNe, Int.reduceAdd, Int.reduceSub, Int.reduceMul, Int.reduceNeg, Int.reduceToNat]
  · simp only [bodyAt, bodyOf, loop_seq, loop_cond, loop_block, loop_loop, loop_region, loop_skip, loop_ret, loop_exit, orE_some, orE_none, Code.first, Option.getD_some, Nat.reduceEqDiff, ↓reduceIte, Try.f55] at q3
    rw [List.drop_zero] at q1
    simp only [Int.cast_ofNat_Int] at q3
    simp only [u29, Try.f29, u55, Try.f55, q1, q3, sm, tys, Nat.reduceAdd, Nat.reduceSub, Nat.reduceEqDiff, Nat.reduceLeDiff, Nat.reduceLT, Nat.reduceMul, Nat.reduceBEq, ↓reduceIte, reduceCtorEq, Int.reduceLT, Int.reduceLE, Int.reduceGT, Int.reduceGE, Int.reduceBEq, Int.reduceBNe, Int.reduceEq, Int.reduceNe, Int.reduceAdd, Int.reduceSub, Int.reduceMul, Int.reduceNeg, Int.reduceToNat]
set_option maxHeartbeats 1000000 in
theorem index_loop_int {bd : Code} (hb : bd = bodyAt Try.f62 2) (l : List Int) (hl : Small l) (x : Int) : ∀ (k i : Nat), i + k = l.length →
    (x ∈ l.drop i ∧ ∃ r : Int, 0 ≤ r ∧ evLoop E62 0 bd [(0, .d (.sl (l.map intD))), (1, .d (D.int .i64 x)), (7, .d (.int .i64 (l.length))), (8, .d (.int .i64 ((i : Int))))] [] = some ([(4, .d (.int .i64 (r)))], [], .ret)) ∨
    (¬ x ∈ l.drop i ∧ evLoop E62 0 bd [(0, .d (.sl (l.map intD))), (1, .d (D.int .i64 x)), (7, .d (.int .i64 (l.length))), (8, .d (.int .i64 ((i : Int))))] [] = some ([(0, .d (.sl (l.map intD))), (1, .d (D.int .i64 x)), (7, .d (.int .i64 (l.length))), (8, .d (.int .i64 (l.length))), (9, .d (.bool false))], [], .exit 0)) := by
  simp only [bodyAt, bodyOf, loop_seq, loop_cond, loop_block, loop_loop, loop_region, loop_skip, loop_ret, loop_exit, orE_some, orE_none, Code.first, Option.getD_some, Nat.reduceEqDiff, ↓reduceIte, Try.f62] at hb
  subst hb
  unfold Small at hl
  intro k
  induction k with
  | zero =>
    intro i hk
    have hi : (i : Int) = (l.length : Int) := by omega
    have hd : l.drop i = [] := by rw [List.drop_eq_nil_iff]; omega
    refine .inr ⟨by rw [hd]; simp, ?_⟩
    rw [c_round]
    simp only [u62, Try.f62, hi, Int.lt_irrefl, sm, tys, Nat.reduceAdd, Nat.reduceSub, Nat.reduceEqDiff, Nat.reduceLeDiff, Nat.reduceLT, Nat.reduceMul, Nat.reduceBEq, ↓reduceIte, reduceCtorEq, Int.reduceLT, Int.reduceLE, Int.reduceGT, Int.reduceGE, Int.reduceBEq, Int.reduceBNe, Int.reduceEq, Int.reduceNe, Int.reduceAdd, Int.reduceSub, Int.reduceMul, Int.reduceNeg, Int.reduceToNat]
  | succ k ih =>
    intro i hk
    have hi : (i : Int) < (l.length : Int) := by omega
    have h0 : 0 ≤ (i : Int) := by omega
    have hlt : i < l.length := by omega
    have hci : l[i]? = some l[i] := by simp [hlt]
    have hd : l.drop i = l[i] :: l.drop (i + 1) := List.drop_eq_getElem_cons hlt
    generalize l[i] = c at hci hd
    have hw : IntKind.i64.wrap ((i : Int) + 1) = ((i + 1 : Nat) : Int) := by rw [wrap_i64 (by omega) (by omega)]; omega
    by_cases e : x = c
    · refine .inl ⟨by rw [hd, e]; simp, (i : Int), h0, ?_⟩
      rw [c_round]
      simp only [u62, Try.f62, hi, h0, hci, intD, e, sm, tys, Nat.reduceAdd, Nat.reduceSub, Nat.reduceEqDiff, Nat.reduceLeDiff, Nat.reduceLT, Nat.reduceMul, Nat.reduceBEq, ↓reduceIte, reduceCtorEq, Int.reduceLT, Int.reduceLE, Int.reduceGT, Int.reduceGE, Int.reduceBEq, Int.reduceBNe, Int.reduceEq, Int.reduceNe, Int.reduceAdd, Int.reduceSub, Int.reduceMul, Int.reduceNeg, Int.reduceToNat]
    · rw [hd]
      have : (x ∈ c :: l.drop (i + 1)) ↔ x ∈ l.drop (i + 1) := by simp [e]
      rw [this]
      rcases ih (i + 1) (by omega) with ⟨q1, r, q2, q3⟩ | ⟨q1, q3⟩
      · refine .inl ⟨q1, r, q2, ?_⟩
        rw [← q3, c_round]
        simp only [u62, Try.f62, hi, h0, hci, hw, intD, e, sm, tys, Nat.reduceAdd, Nat.reduceSub, Nat.reduceEqDiff, Nat.reduceLeDiff, Nat.reduceLT, Nat.reduceMul, Nat.reduceBEq, ↓reduceIte, reduceCtorEq, Int.reduceLT, Int.reduceLE, Int.reduceGT, Int.reduceGE, Int.reduceBEq, Int.reduceBNe, Int.reduceEq, Int.reduceNe, Int.reduceAdd, Int.reduceSub, Int.reduceMul, Int.reduceNeg, Int.reduceToNat]
      · refine .inr ⟨q1, ?_⟩
        rw [← q3, c_round]
        simp only [u62, Try.f62, hi, h0, hci, hw, intD, e, sm, tys, Nat.reduceAdd, Nat.reduceSub, Nat.reduceEqDiff, Nat.reduceLeDiff, Nat.reduceLT, Nat.reduceMul, Nat.reduceBEq, ↓reduceIte, reduceCtorEq, Int.reduceLT, Int.reduceLE, Int.reduceGT, Int.reduceGE, Int.reduceBEq, Int.reduceBNe, Int.reduceEq, Int.reduceNe, Int.reduceAdd, Int.reduceSub, Int.reduceMul, Int.reduceNeg, Int.reduceToNat]
theorem contains_int (l : List Int) (hl : Small l) (x : Int) : v40 [.d (.sl (l.map intD)), .d (D.int .i64 x)] [] = some (.d (.bool (decide (x ∈ l))), []) := by
  rcases index_loop_int (bd := bodyAt Try.f62 2) rfl l hl x l.length 0 (by omega) with ⟨q1, r, q2, q3⟩ | ⟨q1, q3⟩
  · simp only [bodyAt, bodyOf, loop_seq, loop_cond, loop_block, loop_loop, loop_region, loop_skip, loop_ret, loop_exit, orE_some, orE_none, Code.first, Option.getD_some, Nat.reduceEqDiff, ↓reduceIte, Try.f62] at q3
    rw [List.drop_zero] at q1
    simp only [Int.cast_ofNat_Int] at q3
    simp only [u40, Try.f40, u62, Try.f62, q1, q2, q3, sm, tys, Nat.reduceAdd, Nat.reduceSub, Nat.reduceEqDiff, Nat.reduceLeDiff, Nat.reduceLT, Nat.reduceMul, Nat.reduceBEq, ↓reduceIte, reduceCtorEq, Int.reduceLT, Int.reduceLE, Int.reduceGT, Int.reduceGE, Int.reduceBEq, Int.reduceBNe, Int.reduceEq, Int.reduceNe, Int.reduceAdd, Int.reduceSub, Int.reduceMul, Int.reduceNeg, Int.reduceToNat]
  · simp only [bodyAt, bodyOf, loop_seq, loop_cond, loop_block, loop_loop, loop_region, loop_skip, loop_ret, loop_exit, orE_some, orE_none, Code.first, Option.getD_some, Nat.reduceEqDiff, ↓reduceIte, Try.f62] at q3
    rw [List.drop_zero] at q1
    simp only [Int.cast_ofNat_Int] at q3
    simp only [u40, Try.f40, u62, Try.f62, q1, q3, sm, tys, Nat.reduceAdd, Nat.reduceSub, Nat.reduceEqDiff, Nat.reduceLeDiff, Nat.reduceLT, Nat.reduceMul, Nat.reduceBEq, ↓reduceIte, reduceCtorEq, Int.reduceLT, Int.reduceLE, Int.reduceGT, Int.reduceGE, Int.reduceBEq, Int.reduceBNe, Int.reduceEq, Int.reduceNe, Int.reduceAdd, Int.reduceSub, Int.reduceMul, Int.reduceNeg, Int.reduceToNat]
end Go.Wm.Try1
namespace Go.Wm.Try1
open Go Go.Wm Go.Proofs
/-- one pod more, if its name is new -/
def Info.step (x : Info) (p : Pod) : Info := if p.name ∈ x.names then x else x.plus p
def Info.none (n : Node) : Info := ⟨n, [], ⟨0, 0, 0⟩, [], []⟩
def Info.of (n : Node) (l : List Pod) : Info := l.foldl Info.step (Info.none n)
/-- how many ports and claims -/
def portsOf (l : List Pod) : Nat := (l.map fun p => p.ports.length).sum
def claimsOf (l : List Pod) : Nat := (l.map fun p => p.claims.length).sum
def Info.good (x : Info) : Prop := Rising ordS x.names ∧ Rising ordI x.ports ∧ Rising ordS x.disks
theorem step_node (x : Info) (p : Pod) : (x.step p).node = x.node := by unfold Info.step; split <;> rfl
theorem step_good (x : Info) (p : Pod) (h : x.good) : (x.step p).good := by
  unfold Info.step
  split
  · exact h
  · exact ⟨putO_rising _ _ _ h.1, putsO_rising _ _ _ h.2.1, putsO_rising _ _ _ h.2.2⟩
theorem step_len (x : Info) (p : Pod) : (x.step p).names.length ≤ x.names.length + 1 ∧ (x.step p).ports.length ≤ x.ports.length + p.ports.length ∧ (x.step p).disks.length ≤ x.disks.length + p.claims.length := by
  unfold Info.step
  split
  · exact ⟨by omega, by omega, by omega⟩
  · exact ⟨putO_le _ _ _, putsO_le _ _ _, putsO_le _ _ _⟩
set_option maxHeartbeats 8000000 in
theorem of_loop {bd : Code} (hb : bd = bodyAt Try.f9 3) (n : Node) (l : List Pod) (hl : Small l) :
    ∀ (k i : Nat) (x : Info), i + k = l.length → x.good → x.names.length + k ≤ 1073741824 → x.ports.length + portsOf (l.drop i) ≤ 1073741824 → x.disks.length + claimsOf (l.drop i) ≤ 1073741824 →
    evLoop E9 0 bd [(4, .ptr 0 0), (5, .ptr 6 0), (10, .d (.sl (l.map Pod.d))), (11, .d (.int .i64 (l.length))), (12, .d (.int .i64 ((i : Int))))] [.box [.d (.str []), .sl 1 0 0, .sl 2 0 0, .d (.bool false), .d (.int .i64 (0)), .d (.int .i64 (0)), .d (.int .i64 (0)), .d (.int .i64 (0)), .d (.int .i64 (0)), .sl 3 0 0, .d (.int .i64 (0)), .d (.int .i64 (0)), .d (.int .i64 (0)), .sl 4 0 0, .sl 5 0 0], .row 99 2 [], .row 81 3 [], .row 9 1 [], .row 3 1 [], .row 9 1 [], .box [.d (.str n.name), .d (.sl (n.labels.map Label.d)), .d (.sl (n.taints.map Taint.d)), .d (.bool n.off), .d (.int .i64 (n.give.cpu)), .d (.int .i64 (n.give.mem)), .d (.int .i64 (n.give.disk)), .d (.int .i64 (n.pods)), .d (.int .i64 (n.disks)), .sl 7 0 (x).names.length, .d (.int .i64 ((x).used.cpu)), .d (.int .i64 ((x).used.mem)), .d (.int .i64 ((x).used.disk)), .sl 8 0 (x).ports.length, .sl 9 0 (x).disks.length], .row 9 1 (((x).names).map strD), .row 3 1 (((x).ports).map intD), .row 9 1 (((x).disks).map strD)] = some ([(4, .ptr 0 0), (5, .ptr 6 0), (10, .d (.sl (l.map Pod.d))), (11, .d (.int .i64 (l.length))), (12, .d (.int .i64 (l.length))), (13, .d (.bool false))], [.box [.d (.str []), .sl 1 0 0, .sl 2 0 0, .d (.bool false), .d (.int .i64 (0)), .d (.int .i64 (0)), .d (.int .i64 (0)), .d (.int .i64 (0)), .d (.int .i64 (0)), .sl 3 0 0, .d (.int .i64 (0)), .d (.int .i64 (0)), .d (.int .i64 (0)), .sl 4 0 0, .sl 5 0 0], .row 99 2 [], .row 81 3 [], .row 9 1 [], .row 3 1 [], .row 9 1 [], .box [.d (.str n.name), .d (.sl (n.labels.map Label.d)), .d (.sl (n.taints.map Taint.d)), .d (.bool n.off), .d (.int .i64 (n.give.cpu)), .d (.int .i64 (n.give.mem)), .d (.int .i64 (n.give.disk)), .d (.int .i64 (n.pods)), .d (.int .i64 (n.disks)), .sl 7 0 ((l.drop i).foldl Info.step x).names.length, .d (.int .i64 (((l.drop i).foldl Info.step x).used.cpu)), .d (.int .i64 (((l.drop i).foldl Info.step x).used.mem)), .d (.int .i64 (((l.drop i).foldl Info.step x).used.disk)), .sl 8 0 ((l.drop i).foldl Info.step x).ports.length, .sl 9 0 ((l.drop i).foldl Info.step x).disks.length], .row 9 1 ((((l.drop i).foldl Info.step x).names).map strD), .row 3 1 ((((l.drop i).foldl Info.step x).ports).map intD), .row 9 1 ((((l.drop i).foldl Info.step x).disks).map strD)], .exit 0) := by
  simp only [bodyAt, bodyOf, loop_seq, loop_cond, loop_block, loop_loop, loop_region, loop_skip, loop_ret, loop_exit, orE_some, orE_none, Code.first, Option.getD_some, Nat.reduceEqDiff, ↓reduceIte, Try.f9] at hb
  subst hb
  unfold Small at hl
  intro k
  induction k with
  | zero =>
    intro i x hk hg h1 h2 h3
    have hi : (i : Int) = (l.length : Int) := by omega
    have hd : l.drop i = [] := by rw [List.drop_eq_nil_iff]; omega
    rw [c_round, hd]
    simp only [u9, Try.f9, hi, List.foldl_nil, Int.lt_irrefl, sm, tys, Nat.reduceAdd, Nat.reduceSub, Nat.reduceEqDiff, Nat.reduceLeDiff, Nat.reduceLT, Nat.reduceMul, Nat.reduceBEq, ↓reduceIte, reduceCtorEq, Int.reduceLT, Int.reduceLE, Int.reduceGT, Int.reduceGE, Int.reduceBEq, Int.reduceBNe, Int.reduceEq, Int.reduceNe, Int.reduceAdd, Int.reduceSub, Int.reduceMul, Int.reduceNeg, Int.reduceToNat]
  | succ k ih =>
    intro i x hk hg h1 h2 h3
    have hi : (i : Int) < (l.length : Int) := by omega
    have h0 : 0 ≤ (i : Int) := by omega
    have hlt : i < l.length := by omega
    have hci : l[i]? = some l[i] := by simp [hlt]
    have hd : l.drop i = l[i] :: l.drop (i + 1) := List.drop_eq_getElem_cons hlt
    generalize l[i] = p at hci hd
    rw [hd] at h2 h3
    simp only [portsOf, claimsOf, List.map_cons, List.sum_cons] at h2 h3
    have hw : IntKind.i64.wrap ((i : Int) + 1) = ((i + 1 : Nat) : Int) := by rw [wrap_i64 (by omega) (by omega)]; omega
    have hcon := contains_string x.names (by unfold Small; omega) p.name
    obtain ⟨q1, q2, q3⟩ := step_len x p
    have hq := ih (i + 1) (x.step p) (by omega) (step_good x p hg) (by omega) (by unfold portsOf; omega) (by unfold claimsOf; omega)
    rw [hd, List.foldl_cons, ← hq, c_round]
    have ht := List.take_length (l := x.names.map strD)
    simp only [List.length_map] at ht
    by_cases hm : p.name ∈ x.names
    · have e : x.step p = x := by unfold Info.step; rw [if_pos hm]
      rw [e]
      simp only [hm, decide_true] at hcon
      simp only [u9, Try.f9, hi, h0, hci, hw, Pod.d, Pod.cs, ht, hcon, sm, tys, Nat.reduceAdd, Nat.reduceSub, Nat.reduceEqDiff, Nat.reduceLeDiff, Nat.reduceLT, Nat.reduceMul, Nat.reduceBEq, ↓reduceIte, reduceCtorEq, Int.reduceLT, Int.reduceLE, Int.reduceGT, Int.reduceGE, Int.reduceBEq, Int.reduceBNe, Int.reduceEq, Int.reduceNe, Int.reduceAdd, Int.reduceSub, Int.reduceMul, Int.reduceNeg, Int.reduceToNat]
    · have e : x.step p = x.plus p := by unfold Info.step; rw [if_neg hm]
      rw [e]
      simp only [hm, decide_false] at hcon
      have hwith := with_eq n x.used x.names x.disks x.ports p hg.1 hg.2.1 hg.2.2 (by unfold Small; omega) (by omega) (by omega)
      simp only [Pod.d, Pod.cs] at hwith
      simp only [u9, Try.f9, hi, h0, hci, hw, Pod.d, Pod.cs, ht, hcon, hwith, Info.plus, sm, tys, Nat.reduceAdd, Nat.reduceSub, Nat.reduceEqDiff, Nat.reduceLeDiff, Nat.reduceLT, Nat.reduceMul, Nat.reduceBEq, ↓reduceIte, reduceCtorEq, Int.reduceLT, Int.reduceLE, Int.reduceGT, Int.reduceGE, Int.reduceBEq, Int.reduceBNe, Int.reduceEq, Int.reduceNe, Int.reduceAdd, Int.reduceSub, Int.reduceMul, Int.reduceNeg, Int.reduceToNat]
end Go.Wm.Try1
namespace Go.Wm.Try1
open Go Go.Wm Go.Proofs
/-- lists of pods that may be gone through -/
def Pods.ok (l : List Pod) : Prop := Small l ∧ portsOf l ≤ 1073741824 ∧ claimsOf l ≤ 1073741824
set_option maxHeartbeats 8000000 in
theorem info_of (n : Node) (l : List Pod) (hl : Pods.ok l) : v9 [.d n.d, .d (.sl (l.map Pod.d))] [] = some (.agg [.d (.str n.name), .d (.sl (n.labels.map Label.d)), .d (.sl (n.taints.map Taint.d)), .d (.bool n.off), .d (.int .i64 (n.give.cpu)), .d (.int .i64 (n.give.mem)), .d (.int .i64 (n.give.disk)), .d (.int .i64 (n.pods)), .d (.int .i64 (n.disks)), .sl 0 0 (Info.of n l).names.length, .d (.int .i64 ((Info.of n l).used.cpu)), .d (.int .i64 ((Info.of n l).used.mem)), .d (.int .i64 ((Info.of n l).used.disk)), .sl 1 0 (Info.of n l).ports.length, .sl 2 0 (Info.of n l).disks.length], [.row 9 1 (((Info.of n l).names).map strD), .row 3 1 (((Info.of n l).ports).map intD), .row 9 1 (((Info.of n l).disks).map strD)]) := by
  have h := of_loop (bd := bodyAt Try.f9 3) rfl n l hl.1 l.length 0 (Info.none n) (by omega) ⟨.nil, .nil, .nil⟩ (by have := hl.1; unfold Small at this; simp [Info.none]; omega) (by simpa [Info.none] using hl.2.1) (by simpa [Info.none] using hl.2.2)
  rw [List.drop_zero] at h
  simp only [bodyAt, bodyOf, loop_seq, loop_cond, loop_block, loop_loop, loop_region, loop_skip, loop_ret, loop_exit, orE_some, orE_none, Code.first, Option.getD_some, Nat.reduceEqDiff, ↓reduceIte, Try.f9] at h
  simp only [Info.none, Int.cast_ofNat_Int, List.map_nil, List.length_nil] at h
  have e : Info.of n l = l.foldl Info.step ⟨n, [], ⟨0, 0, 0⟩, [], []⟩ := rfl
  rw [← e] at h
  generalize Info.of n l = x at h ⊢
  simp only [u9, Try.f9, Node.d, Node.cs, h, sm, tys, Nat.reduceAdd, Nat.reduceSub, Nat.reduceEqDiff, Nat.reduceLeDiff, Nat.reduceLT, Nat.reduceMul, Nat.reduceBEq, ↓reduceIte, reduceCtorEq, Int.reduceLT, Int.reduceLE, Int.reduceGT, Int.reduceGE, Int.reduceBEq, Int.reduceBNe, Int.reduceEq, Int.reduceNe, Int.reduceAdd, Int.reduceSub, Int.reduceMul, Int.reduceNeg, Int.reduceToNat]
end Go.Wm.Try1
namespace Go.Wm.Try1
open Go Go.Wm Go.Proofs
set_option maxHeartbeats 1000000 in
theorem has_eq_loop {bd : Code} (hb : bd = bodyAt Try.f21 2) (l : List Str) (hl : Small l) (x : Str) : ∀ (k i : Nat), i + k = l.length →
    evLoop E21 0 bd [(0, .d (.sl (l.map strD))), (1, .d (D.str x)), (5, .d (.int .i64 ((i : Int))))] [] = if x ∈ l.drop i then some ([(4, .d (.bool true))], [], .ret) else some ([(0, .d (.sl (l.map strD))), (1, .d (D.str x)), (5, .d (.int .i64 (l.length))), (9, .d (.bool false))], [], .exit 0) := by
  simp only [bodyAt, bodyOf, loop_seq, loop_cond, loop_block, loop_loop, loop_region, loop_skip, loop_ret, loop_exit, orE_some, orE_none, Code.first, Option.getD_some, Nat.reduceEqDiff, ↓reduceIte, Try.f21] at hb
  subst hb
  unfold Small at hl
  intro k
  induction k with
  | zero =>
    intro i hk
    have hi : (i : Int) = (l.length : Int) := by omega
    have hd : l.drop i = [] := by rw [List.drop_eq_nil_iff]; omega
    rw [hd, if_neg (by simp), c_round]
    simp only [u21, Try.f21, hi, Int.lt_irrefl, sm, tys, Nat.reduceAdd, Nat.reduceSub, Nat.reduceEqDiff, Nat.reduceLeDiff, Nat.reduceLT, Nat.reduceMul, Nat.reduceBEq, ↓reduceIte, reduceCtorEq, Int.reduceLT, Int.reduceLE, Int.reduceGT, Int.reduceGE, Int.reduceBEq, Int.reduceBNe, Int.reduceEq, Int.reduceNe, Int.reduceAdd, Int.reduceSub, Int.reduceMul, Int.reduceNeg, Int.reduceToNat]
  | succ k ih =>
    intro i hk
    have hi : (i : Int) < (l.length : Int) := by omega
    have h0 : 0 ≤ (i : Int) := by omega
    have hlt : i < l.length := by omega
    have hci : l[i]? = some l[i] := by simp [hlt]
    have hd : l.drop i = l[i] :: l.drop (i + 1) := List.drop_eq_getElem_cons hlt
    generalize l[i] = c at hci hd
    have hw : IntKind.i64.wrap ((i : Int) + 1) = ((i + 1 : Nat) : Int) := by rw [wrap_i64 (by omega) (by omega)]; omega
    by_cases e : c = x
    · rw [hd, if_pos (by rw [e]; simp), c_round]
      simp only [u21, Try.f21, hi, h0, hci, strD, e, sm, tys, Nat.reduceAdd, Nat.reduceSub, Nat.reduceEqDiff, Nat.reduceLeDiff, Nat.reduceLT, Nat.reduceMul, Nat.reduceBEq, ↓reduceIte, reduceCtorEq, Int.reduceLT, Int.reduceLE, Int.reduceGT, Int.reduceGE, Int.reduceBEq, Int.reduceBNe, Int.reduceEq, Int.reduceNe, Int.reduceAdd, Int.reduceSub, Int.reduceMul, Int.reduceNeg, Int.reduceToNat]
    · have e' : ¬ x = c := fun h => e h.symm
      have : (x ∈ c :: l.drop (i + 1)) ↔ x ∈ l.drop (i + 1) := by simp [e']
      rw [hd]
      simp only [this]
      rw [← ih (i + 1) (by omega), c_round]
      simp only [u21, Try.f21, hi, h0, hci, hw, strD, e, sm, tys, Nat.reduceAdd, Nat.reduceSub, Nat.reduceEqDiff, Nat.reduceLeDiff, Nat.reduceLT, Nat.reduceMul, Nat.reduceBEq, ↓reduceIte, reduceCtorEq, Int.reduceLT, Int.reduceLE, Int.reduceGT, Int.reduceGE, Int.reduceBEq, Int.reduceBNe, Int.reduceEq, Int.reduceNe, Int.reduceAdd, Int.reduceSub, Int.reduceMul, Int.reduceNeg, Int.reduceToNat]
theorem has_eq (l : List Str) (hl : Small l) (x : Str) : v21 [.d (.sl (l.map strD)), .d (D.str x)] [] = some (.d (.bool (decide (x ∈ l))), []) := by
  have h := has_eq_loop (bd := bodyAt Try.f21 2) rfl l hl x l.length 0 (by omega)
  rw [List.drop_zero] at h
  simp only [bodyAt, bodyOf, loop_seq, loop_cond, loop_block, loop_loop, loop_region, loop_skip, loop_ret, loop_exit, orE_some, orE_none, Code.first, Option.getD_some, Nat.reduceEqDiff, ↓reduceIte, Try.f21] at h
  simp only [Int.cast_ofNat_Int] at h
  by_cases e : x ∈ l
  · rw [if_pos e] at h
    simp only [u21, Try.f21, h, e, sm, tys, Nat.reduceAdd, Nat.reduceSub, Nat.reduceEqDiff, Nat.reduceLeDiff, Nat.reduceLT, Nat.reduceMul, Nat.reduceBEq, ↓reduceIte, reduceCtorEq, Int.reduceLT, Int.reduceLE, Int.reduceGT, Int.reduceGE, Int.reduceBEq, Int.reduceBNe, Int.reduceEq, Int.reduceNe, Int.reduceAdd, Int.reduceSub, Int.reduceMul, Int.reduceNeg, Int.reduceToNat]
  · rw [if_neg e] at h
    simp only [u21, Try.f21, h, e, sm, tys, Nat.reduceAdd, Nat.reduceSub, Nat.reduceEqDiff, Nat.reduceLeDiff, Nat.reduceLT, Nat.reduceMul, Nat.reduceBEq, ↓reduceIte, reduceCtorEq, Int.reduceLT, Int.reduceLE, Int.reduceGT, Int.reduceGE, Int.reduceBEq, Int.reduceBNe, Int.reduceEq, Int.reduceNe, Int.reduceAdd, Int.reduceSub, Int.reduceMul, Int.reduceNeg, Int.reduceToNat]
set_option maxHeartbeats 1000000 in
theorem hasInt_eq_loop {bd : Code} (hb : bd = bodyAt Try.f41 2) (l : List Int) (hl : Small l) (x : Int) : ∀ (k i : Nat), i + k = l.length →
    evLoop E41 0 bd [(0, .d (.sl (l.map intD))), (1, .d (D.int .i64 x)), (5, .d (.int .i64 ((i : Int))))] [] = if x ∈ l.drop i then some ([(4, .d (.bool true))], [], .ret) else some ([(0, .d (.sl (l.map intD))), (1, .d (D.int .i64 x)), (5, .d (.int .i64 (l.length))), (9, .d (.bool false))], [], .exit 0) := by
  simp only [bodyAt, bodyOf, loop_seq, loop_cond, loop_block, loop_loop, loop_region, loop_skip, loop_ret, loop_exit, orE_some, orE_none, Code.first, Option.getD_some, Nat.reduceEqDiff, ↓reduceIte, Try.f41] at hb
  subst hb
  unfold Small at hl
  intro k
  induction k with
  | zero =>
    intro i hk
    have hi : (i : Int) = (l.length : Int) := by omega
    have hd : l.drop i = [] := by rw [List.drop_eq_nil_iff]; omega
    rw [hd, if_neg (by simp), c_round]
    simp only [u41, Try.f41, hi, Int.lt_irrefl, sm, tys, Nat.reduceAdd, Nat.reduceSub, Nat.reduceEqDiff, Nat.reduceLeDiff, Nat.reduceLT, Nat.reduceMul, Nat.reduceBEq, ↓reduceIte, reduceCtorEq, Int.reduceLT, Int.reduceLE, Int.reduceGT, Int.reduceGE, Int.reduceBEq, Int.reduceBNe, Int.reduceEq, Int.reduceNe, Int.reduceAdd, Int.reduceSub, Int.reduceMul, Int.reduceNeg, Int.reduceToNat]
  | succ k ih =>
    intro i hk
    have hi : (i : Int) < (l.length : Int) := by omega
    have h0 : 0 ≤ (i : Int) := by omega
    have hlt : i < l.length := by omega
    have hci : l[i]? = some l[i] := by simp [hlt]
    have hd : l.drop i = l[i] :: l.drop (i + 1) := List.drop_eq_getElem_cons hlt
    generalize l[i] = c at hci hd
    have hw : IntKind.i64.wrap ((i : Int) + 1) = ((i + 1 : Nat) : Int) := by rw [wrap_i64 (by omega) (by omega)]; omega
    by_cases e : c = x
    · rw [hd, if_pos (by rw [e]; simp), c_round]
      simp only [u41, Try.f41, hi, h0, hci, intD, e, sm, tys, Nat.reduceAdd, Nat.reduceSub, Nat.reduceEqDiff, Nat.reduceLeDiff, Nat.reduceLT, Nat.reduceMul, Nat.reduceBEq, ↓reduceIte, reduceCtorEq, Int.reduceLT, Int.reduceLE, Int.reduceGT, Int.reduceGE, Int.reduceBEq, Int.reduceBNe, Int.reduceEq, Int.reduceNe, Int.reduceAdd, Int.reduceSub, Int.reduceMul, Int.reduceNeg, Int.reduceToNat]
    · have e' : ¬ x = c := fun h => e h.symm
      have : (x ∈ c :: l.drop (i + 1)) ↔ x ∈ l.drop (i + 1) := by simp [e']
      rw [hd]
      simp only [this]
      rw [← ih (i + 1) (by omega), c_round]
      simp only [u41, Try.f41, hi, h0, hci, hw, intD, e, sm, tys, Nat.reduceAdd, Nat.reduceSub, Nat.reduceEqDiff, Nat.reduceLeDiff, Nat.reduceLT, Nat.reduceMul, Nat.reduceBEq, ↓reduceIte, reduceCtorEq, Int.reduceLT, Int.reduceLE, Int.reduceGT, Int.reduceGE, Int.reduceBEq, Int.reduceBNe, Int.reduceEq, Int.reduceNe, Int.reduceAdd, Int.reduceSub, Int.reduceMul, Int.reduceNeg, Int.reduceToNat]
theorem hasInt_eq (l : List Int) (hl : Small l) (x : Int) : v41 [.d (.sl (l.map intD)), .d (D.int .i64 x)] [] = some (.d (.bool (decide (x ∈ l))), []) := by
  have h := hasInt_eq_loop (bd := bodyAt Try.f41 2) rfl l hl x l.length 0 (by omega)
  rw [List.drop_zero] at h
  simp only [bodyAt, bodyOf, loop_seq, loop_cond, loop_block, loop_loop, loop_region, loop_skip, loop_ret, loop_exit, orE_some, orE_none, Code.first, Option.getD_some, Nat.reduceEqDiff, ↓reduceIte, Try.f41] at h
  simp only [Int.cast_ofNat_Int] at h
  by_cases e : x ∈ l
  · rw [if_pos e] at h
    simp only [u41, Try.f41, h, e, sm, tys, Nat.reduceAdd, Nat.reduceSub, Nat.reduceEqDiff, Nat.reduceLeDiff, Nat.reduceLT, Nat.reduceMul, Nat.reduceBEq, ↓reduceIte, reduceCtorEq, Int.reduceLT, Int.reduceLE, Int.reduceGT, Int.reduceGE, Int.reduceBEq, Int.reduceBNe, Int.reduceEq, Int.reduceNe, Int.reduceAdd, Int.reduceSub, Int.reduceMul, Int.reduceNeg, Int.reduceToNat]
  · rw [if_neg e] at h
    simp only [u41, Try.f41, h, e, sm, tys, Nat.reduceAdd, Nat.reduceSub, Nat.reduceEqDiff, Nat.reduceLeDiff, Nat.reduceLT, Nat.reduceMul, Nat.reduceBEq, ↓reduceIte, reduceCtorEq, Int.reduceLT, Int.reduceLE, Int.reduceGT, Int.reduceGE, Int.reduceBEq, Int.reduceBNe, Int.reduceEq, Int.reduceNe, Int.reduceAdd, Int.reduceSub, Int.reduceMul, Int.reduceNeg, Int.reduceToNat]
end Go.Wm.Try1
