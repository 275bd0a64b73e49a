/-
  A part of the proof: an abstract run of the program, shown to be what the model does, and what it comes to.
-/
import Derived.Test.YthpomdmjckdknaaMD
set_option linter.unusedSectionVars false
set_option linter.unnecessarySimpa false
set_option maxRecDepth 100000
set_option linter.unusedVariables false
set_option linter.unusedSimpArgs false
set_option linter.defProp false
namespace Go.Wm.Try1
open Go Go.Wm Go.Proofs
set_option maxHeartbeats 4000000 in
theorem makes_loop {bd : Code} (hb : bd = bodyAt Try.f3 7) (n : Node) (l : List Pod) (hl : Small l) (ha : Pods.all l) : ∀ (k i : Nat), i + k = l.length →
    evLoop E3 0 bd [(1, .d (.sl (l.map Pod.d))), (3, .ptr 0 0), (7, .own 1 (l.map Pod.d)), (8, .ptr 2 0), (11, .d (.int .i64 ((i : Int))))] [.box [.d (.str n.name), .d (.sl (n.labels.map Label.d)), .d (.sl (n.taints.map Taint.d)), .d (.bool n.off), .d (.int .i64 (n.give.cpu)), .d (.int .i64 (n.give.mem)), .d (.int .i64 (n.give.disk)), .d (.int .i64 (n.pods)), .d (.int .i64 (n.disks))], .tok 37 l.length 16, .box [.d (.str n.name), .d (.sl (n.labels.map Label.d)), .d (.sl (n.taints.map Taint.d)), .d (.bool n.off), .d (.int .i64 (n.give.cpu)), .d (.int .i64 (n.give.mem)), .d (.int .i64 (n.give.disk)), .d (.int .i64 (n.pods)), .d (.int .i64 (n.disks))]] = some ([(1, .d (.sl (l.map Pod.d))), (3, .ptr 0 0), (7, .own 1 (l.map Pod.d)), (8, .ptr 2 0), (11, .d (.int .i64 (l.length))), (47, .d (.bool false))], [.box [.d (.str n.name), .d (.sl (n.labels.map Label.d)), .d (.sl (n.taints.map Taint.d)), .d (.bool n.off), .d (.int .i64 (n.give.cpu)), .d (.int .i64 (n.give.mem)), .d (.int .i64 (n.give.disk)), .d (.int .i64 (n.pods)), .d (.int .i64 (n.disks))], .tok 37 l.length 16, .box [.d (.str n.name), .d (.sl (n.labels.map Label.d)), .d (.sl (n.taints.map Taint.d)), .d (.bool n.off), .d (.int .i64 (n.give.cpu)), .d (.int .i64 (n.give.mem)), .d (.int .i64 (n.give.disk)), .d (.int .i64 (n.pods)), .d (.int .i64 (n.disks))]], .exit 0) := by
  simp only [bodyAt, bodyOf, loop_seq, loop_cond, loop_block, loop_loop, loop_region, loop_skip, loop_ret, loop_exit, orE_some, orE_none, Code.first, Option.getD_some, Nat.reduceEqDiff, ↓reduceIte, Try.f3] at hb
  subst hb
  unfold Small at hl
  intro k
  induction k with
  | zero =>
    intro i hk
    have hi : (i : Int) = (l.length : Int) := by omega
    rw [c_round]
    simp only [u3, Try.f3, hi, Int.lt_irrefl, sm, tys, Nat.reduceAdd, Nat.reduceSub, Nat.reduceEqDiff, Nat.reduceLeDiff, Nat.reduceLT, Nat.reduceMul, Nat.reduceBEq, ↓reduceIte, reduceCtorEq, Int.reduceLT, Int.reduceLE, Int.reduceGT, Int.reduceGE, Int.reduceBEq, Int.reduceBNe, Int.reduceEq, Int.reduceNe, Int.reduceAdd, Int.reduceSub, Int.reduceMul, Int.reduceNeg, Int.reduceToNat]
  | succ k ih =>
    intro i hk
    have hi : (i : Int) < (l.length : Int) := by omega
    have h0 : 0 ≤ (i : Int) := by omega
    have hlt : i < l.length := by omega
    have hci : l[i]? = some l[i] := by simp [hlt]
    have hmem : l[i] ∈ l := List.getElem_mem hlt
    generalize l[i] = c at hci hmem
    have hs := samePod c (ha c hmem)
    have hcc : c.d.cells.length = 16 := rfl
    have htk : D.agg (List.take 16 c.d.cells) = c.d := rfl
    have hw : IntKind.i64.wrap ((i : Int) + 1) = ((i + 1 : Nat) : Int) := by rw [wrap_i64 (by omega) (by omega)]; omega
    rw [← ih (i + 1) (by omega), c_round]
    simp only [u3, Try.f3, hi, h0, hci, hw, hs, hcc, htk, sm, tys, Nat.reduceAdd, Nat.reduceSub, Nat.reduceEqDiff, Nat.reduceLeDiff, Nat.reduceLT, Nat.reduceMul, Nat.reduceBEq, ↓reduceIte, reduceCtorEq, Int.reduceLT, Int.reduceLE, Int.reduceGT, Int.reduceGE, Int.reduceBEq, Int.reduceBNe, Int.reduceEq, Int.reduceNe, Int.reduceAdd, Int.reduceSub, Int.reduceMul, Int.reduceNeg, Int.reduceToNat]
set_option maxHeartbeats 4000000 in
theorem makes_eq (n : Node) (l : List Pod) (p : Pod) (hn : n.ok) (hl : Pods.ok l) (ha : Pods.all l) (hp : p.ok) : v3 [.d n.d, .d (.sl (l.map Pod.d)), .d p.d] [] = some (.d (.bool true), []) := by
  have h1 := pods_eq l hl.1 ha
  have hloop := makes_loop (bd := bodyAt Try.f3 7) rfl n l hl.1 ha l.length 0 (by omega)
  simp only [bodyAt, bodyOf, loop_seq, loop_cond, loop_block, loop_loop, loop_region, loop_skip, loop_ret, loop_exit, orE_some, orE_none, Code.first, Option.getD_some, Nat.reduceEqDiff, ↓reduceIte, Try.f3] at hloop
  simp only [Int.cast_ofNat_Int] at hloop
  have h2 := node_eq n hn
  have h3 := info_of n l hl
  have h4 := rof_eq n l hl
  have hx := info_ok n hn l hl
  have h12 := info_node n l
  generalize Info.of n l = x at *
  have h5 := sameInfo x hx
  have h6 := free_eq x
  have h7 := rfree_eq x
  have hxp : Small x.ports := hx.2.2.1
  have hpp : Small p.ports := hp.2.2.2.2.1
  have h8 := clash_eq x hxp p hpp
  have h9 := rclash_eq x hxp p hpp
  have hw := works_eq
  obtain ⟨a, b, c, e1, e2, e3, h10⟩ := spoil_eq n x.used x.names x.disks x.ports hx.2.1 hx.2.2.1 hx.2.2.2
  have h11 := sameNode n hn
  subst h12
  simp only [Info.d, Info.cs, Node.d, Node.cs, Pod.d, Pod.cs, Res.d, List.cons_append, List.nil_append] at h2 h3 h4 h5 h6 h7 h8 h9 h10 h11
  have t1 := List.take_length (l := x.names.map strD)
  have t2 := List.take_length (l := x.ports.map intD)
  have t3 := List.take_length (l := x.disks.map strD)
  rw [List.length_map] at t1 t2 t3
  simp only [u3, Try.f3, Info.d, Info.cs, Node.d, Node.cs, Pod.d, Pod.cs, Res.d, List.cons_append, List.nil_append, h1, h2, h3, h4, h5, h6, h7, h8, h9, h10, h11, hw, t1, t2, t3, hloop, sm, tys, Nat.reduceAdd, Nat.reduceSub, Nat.reduceEqDiff, Nat.reduceLeDiff, Nat.reduceLT, Nat.reduceMul, Nat.reduceBEq, ↓reduceIte, reduceCtorEq, Int.reduceLT, Int.reduceLE, Int.reduceGT, Int.reduceGE, Int.reduceBEq, Int.reduceBNe, Int.reduceEq, Int.reduceNe, Int.reduceAdd, Int.reduceSub, Int.reduceMul, Int.reduceNeg, Int.reduceToNat]
end Go.Wm.Try1
